import Derived.Calls
import Derived.Below
import Derived.Orders
set_option linter.unusedVariables false
set_option linter.unusedSimpArgs false
set_option linter.unusedSectionVars false
/- An interpreter of the model's code over abstract values: definitions. -/
namespace Go.Den

/-- The kind of a cell of a row. -/
inductive Kd where
  | b | i (k : IntKind) | s | sl (ks : List Kd) | o

mutual
def Kd.same : Kd → Kd → Bool
  | .b, .b => true
  | .i k, .i l => decide (k = l)
  | .s, .s => true
  | .sl a, .sl c => Kd.sameL a c
  | .o, .o => true
  | _, _ => false
def Kd.sameL : List Kd → List Kd → Bool
  | [], [] => true
  | a1 :: x, a2 :: y => Kd.same a1 a2 && Kd.sameL x y
  | _, _ => false
end

/-- A value without pointers: a scalar, or a slice of rows that never change. -/
inductive DV where
  | val (v : Value)
  | sl (nl : Bool) (ks : List Kd) (rows : List (List DV))
abbrev Row := List DV
abbrev Rows := List (List DV)

inductive Right where
  | no | ex | tok (k : Nat) | old

inductive AV where
  | dv (d : DV)
  | sl (nl : Bool) (ks : List Kd) (rows : Rows) (r : Right)
  | agg (cs : List AV)
  | tup (vs : List AV)
  | pl (k off : Nat)
  | pv (ks : List Kd) (row : Row) (off : Nat)
  | fn (f : FuncId) (caps : List AV)
  | ifc (t : TypeId) (v : AV)
  | ms (k : Nat) (ks : List Kd) (off n c : Nat)
  | pa (k : Nat) (ks : List Kd) (i j : Nat)
  | arr (ks : List Kd) (rows : Rows)
  | junk

@[reducible] def AV.B (x : Bool) : AV := .dv (.val (.bool x))
@[reducible] def AV.I (k : IntKind) (n : Int) : AV := .dv (.val (.int k n))
@[reducible] def AV.S (s : ByteArray) : AV := .dv (.val (.string s))

def DV.toB : DV → Bool | .val (.bool x) => x | _ => false
def DV.toI : DV → Int | .val (.int _ n) => n | _ => 0
def DV.toS : DV → ByteArray | .val (.string s) => s | _ => .empty
def DV.toNl : DV → Bool | .sl n _ _ => n | _ => true
def DV.toRows : DV → Rows | .sl _ _ r => r | _ => []
def DV.toV : DV → Value | .val v => v | _ => undef
def Row.at (r : Row) (j : Nat) : DV := r.getD j (.val undef)
def Row.B (r : Row) (j : Nat) : Bool := (Row.at r j).toB
def Row.I (r : Row) (j : Nat) : Int := (Row.at r j).toI
def Row.S (r : Row) (j : Nat) : ByteArray := (Row.at r j).toS
def Row.N (r : Row) (j : Nat) : Bool := (Row.at r j).toNl
def Row.R (r : Row) (j : Nat) : Rows := (Row.at r j).toRows
def Row.V (r : Row) (j : Nat) : Value := (Row.at r j).toV

/-- Cell j of a row of known kinds, laid open. -/
def Row.cell (k : Kd) (r : Row) (j : Nat) : AV :=
  match k with
  | .b => .B (r.B j)
  | .i k => .I k (r.I j)
  | .s => .S (r.S j)
  | .sl ks => .sl (r.N j) ks (r.R j) .no
  | .o => .dv (.val (r.V j))
def Row.cells (r : Row) : List Kd → Nat → List AV
  | [], _ => []
  | k :: ks, j => Row.cell k r j :: Row.cells r ks (j + 1)

/-- Is a cell of the kind? -/
def DV.ofKd : Kd → DV → Bool
  | .b, .val (.bool _) => true
  | .i k, .val (.int l _) => decide (k = l)
  | .s, .val (.string _) => true
  | .sl ks, .sl _ ls _ => Kd.sameL ks ls
  | .o, .val _ => true
  | _, _ => false
def Row.ofKds : List Kd → Row → Bool
  | [], [] => true
  | k :: ks, d :: ds => DV.ofKd k d && Row.ofKds ks ds
  | _, _ => false

/-- A value as cells of a row. -/
def AV.flat : AV → Option DV
  | .dv d => some d
  | .sl n ks rows _ => some (.sl n ks rows)
  | _ => none
def AV.flats : List AV → Option Row
  | [] => some []
  | a :: l => match a.flat with
    | some d => match AV.flats l with
      | some r => some (d :: r)
      | none => none
    | none => none
def AV.row : AV → Option Row
  | .agg cs => AV.flats cs
  | a => match a.flat with
    | some d => some [d]
    | none => none

abbrev Mem := List (Nat × List AV)
structure St where
  t : List AV
  m : Mem

def lookup (m : Mem) (k : Nat) : Option (List AV) :=
  match m with
  | [] => none
  | (j, cs) :: r => if Nat.beq j k then some cs else lookup r k
/-- A slot of cells; of one array. -/
def plain : List AV → Bool
  | [.arr _ _] => false
  | _ => true
def lookupC (m : Mem) (k : Nat) : Option (List AV) :=
  match lookup m k with
  | some cs => match plain cs with | true => some cs | false => none
  | none => none
def lookupA (m : Mem) (k : Nat) : Option (List Kd × Rows) :=
  match lookup m k with
  | some [.arr ks rows] => some (ks, rows)
  | _ => none
def drop (m : Mem) (k : Nat) : Mem :=
  match m with
  | [] => []
  | (j, cs) :: r => if Nat.beq j k then drop r k else (j, cs) :: drop r k
def write (m : Mem) (k : Nat) (cs : List AV) : Mem :=
  match m with
  | [] => [(k, cs)]
  | (j, ds) :: r => if Nat.beq j k then (k, cs) :: r else (j, ds) :: write r k cs
def writes (m : Mem) : List (Nat × List AV) → Mem
  | [] => m
  | (k, cs) :: l => writes (write m k cs) l

def mem (k : Nat) : List Nat → Bool
  | [] => false
  | j :: l => Nat.beq j k || mem k l

def Right.scrub (ks : List Nat) : Right → Right
  | .tok k => if mem k ks then .no else .tok k
  | r => r
mutual
/-- Pointers to slot p, and the tokens ks, are struck. -/
def AV.scrub (p : List Nat) (ks : List Nat) : AV → AV
  | .sl n kd rows r => .sl n kd rows (r.scrub ks)
  | .agg cs => .agg (AV.scrubL p ks cs)
  | .tup cs => .tup (AV.scrubL p ks cs)
  | .pl k off => if mem k p then .junk else .pl k off
  | .fn f caps => .fn f (AV.scrubL p ks caps)
  | .ifc t v => .ifc t (AV.scrub p ks v)
  | .dv d => .dv d
  | .pv kd row off => .pv kd row off
  | .ms k kd off n c => if mem k p then .junk else .ms k kd off n c
  | .pa k kd i j => if mem k p then .junk else .pa k kd i j
  | .arr kd rows => .arr kd rows
  | .junk => .junk
def AV.scrubL (p : List Nat) (ks : List Nat) : List AV → List AV
  | [] => []
  | a :: l => AV.scrub p ks a :: AV.scrubL p ks l
end
def scrubM (p ks : List Nat) : Mem → Mem
  | [] => []
  | (k, cs) :: m => (k, AV.scrubL p ks cs) :: scrubM p ks m

/-- What an operation does: the value; or (a value,) slots that are struck (p), tokens that are struck (ks), slots that are written. -/
inductive Eff where
  | pure (r : AV)
  | full (r : AV) (p ks : List Nat) (wr : List (Nat × List AV))

def setT (t : List AV) (d : Option Tmp) (r : AV) : List AV :=
  match d with
  | some d => t.set d r
  | none => t

def dropAll (m : Mem) : List Nat → Mem
  | [] => m
  | k :: l => dropAll (drop m k) l

def St.apply (s : St) (d : Option Tmp) : Eff → St
  | .pure r => { t := setT s.t d r, m := s.m }
  | .full r p ks wr => { t := setT (AV.scrubL p ks s.t) d r, m := writes (scrubM p ks (dropAll s.m p)) wr }

/-- What a call comes to: a result, or (pan) the value of a panic; what the variables hold that it was handed. -/
structure Out where
  pan : Bool
  res : AV
  ext : List (List AV)

/-- What is known of calls; hs: which slices can be written. -/
structure Orc where
  call : ∀ R : Type, FuncId → List AV → List (List AV) → (Out → Option R) → Option R
  hs : List Nat := []

/-! types -/
section
variable (P : Program)
def size? (t : TypeId) : Option Nat := match P.info? t with | some i => some i.size | none => none
def bytes? (t : TypeId) : Option Nat := match P.info? t with | some i => some i.bytes | none => none
def agg? (t : TypeId) : Option Bool :=
  match P.underlying t with
  | some (.struct _) => some true
  | some (.array _ _) => some true
  | some _ => some false
  | none => none
def fieldsKds (g : TypeId → Option (List Kd)) : List Field → Option (List Kd)
  | [] => some []
  | f :: fs => match g f.type with
    | some ks => match fieldsKds g fs with | some l => some (ks ++ l) | none => none
    | none => none
/-- The kinds of a type's cells. -/
def kdsOf : Nat → TypeId → Option (List Kd)
  | 0, _ => none
  | n + 1, t =>
    match P.underlying t with
    | some .bool => some [.b]
    | some (.int k) => some [.i k]
    | some .string => some [.s]
    | some (.slice e) => match kdsOf n e with | some ks => some [.sl ks] | none => none
    | some (.struct fs) => fieldsKds (kdsOf n) fs.toList
    | some (.array l e) => match kdsOf n e with | some ks => some (List.flatten (List.replicate l ks)) | none => none
    | some (.func _ _ _) => some [.o]
    | some (.pointer _) => some [.o]
    | some (.interface _) => some [.o]
    | some (.map _ _) => some [.o]
    | _ => none
termination_by structural n => n

/-- A constant. -/
def ofConst (t : TypeId) : Value → Option AV
  | .bool b => some (.B b)
  | .int k n => some (.I k n)
  | .string s => some (.S s)
  | .pointer none => some (.dv (.val (.pointer none)))
  | .nilFunc => some (.dv (.val .nilFunc))
  | .nilIface => some (.dv (.val .nilIface))
  | .slice none 0 0 =>
    match P.underlying t with
    | some (.slice e) => match kdsOf P 9 e with | some ks => some (.sl true ks [] .ex) | none => none
    | _ => none
  | _ => none
def zeroAVs : List Kd → List Value → Option (List AV)
  | [], [] => some []
  | .b :: ks, .bool b :: vs => match zeroAVs ks vs with | some l => some (.B b :: l) | none => none
  | .i k :: ks, .int j n :: vs => if k = j then match zeroAVs ks vs with | some l => some (.I k n :: l) | none => none else none
  | .s :: ks, .string s :: vs => match zeroAVs ks vs with | some l => some (.S s :: l) | none => none
  | .sl kd :: ks, .slice none 0 0 :: vs => match zeroAVs ks vs with | some l => some (.sl true kd [] .ex :: l) | none => none
  | .o :: ks, .pointer none :: vs => match zeroAVs ks vs with | some l => some (.dv (.val (.pointer none)) :: l) | none => none
  | .o :: ks, .nilFunc :: vs => match zeroAVs ks vs with | some l => some (.dv (.val .nilFunc) :: l) | none => none
  | .o :: ks, .nilIface :: vs => match zeroAVs ks vs with | some l => some (.dv (.val .nilIface) :: l) | none => none
  | .o :: ks, .map none :: vs => match zeroAVs ks vs with | some l => some (.dv (.val (.map none)) :: l) | none => none
  | _, _ => none
/-- The cells of a type's zero value. -/
def zeroOf (t : TypeId) : Option (List AV) :=
  match P.info? t with
  | some i => match i.zero with
    | some z => match kdsOf P 9 t with
      | some ks => zeroAVs ks z.cells.toList
      | none => none
    | none => none
  | none => none

def evT (t : List AV) (ty : TypeId) : Operand → Option AV
  | .tmp i => t[i]?
  | .const v => ofConst P ty v
  | .func f => some (.fn f [])
  | .global _ => none

/-- A value's cells. -/
def AV.cells : AV → Option (List AV)
  | .agg cs => some cs
  | .tup _ => none
  | .junk => none
  | a => some [a]
/-- May it be stored into one cell? -/
def AV.isCell : AV → Bool
  | .dv (.val (.agg _)) => false
  | .dv (.val (.tuple _)) => false
  | .dv _ => true
  | .sl .. => true
  | .pl .. => true
  | .pv .. => true
  | .fn .. => true
  | .ifc .. => true
  | .ms .. => true
  | .pa .. => true
  | _ => false
def AV.areCells : List AV → Bool
  | [] => true
  | a :: l => a.isCell && AV.areCells l

def splice (cs : List AV) (off : Nat) (new : List AV) : List AV := cs.take off ++ new ++ cs.drop (off + new.length)

/-- Where field i begins, and its type. -/
def field? (t : TypeId) (i : Nat) : Option (Nat × TypeId) :=
  match P.underlying t with
  | some (.struct fs) => match fs[i]? with | some f => some (f.offset, f.type) | none => none
  | _ => none
/-- A part of a composite: where it begins, and its size. -/
def place? (t : TypeId) (i : Nat) : Option (Nat × Nat × TypeId) :=
  match P.underlying t with
  | some (.struct fs) => match fs[i]? with | some f => (match size? P f.type with | some n => some (f.offset, n, f.type) | none => none) | none => none
  | some (.array _ e) => match size? P e with | some n => some (i * n, n, e) | none => none
  | _ => none

/-- Have all fields sizes? -/
def sized (t : TypeId) : Bool :=
  match P.underlying t with
  | some (.struct fs) => (fs.toList.mapM (fun f => (P.info? f.type).map fun i => (f.offset, i.size))).isSome
  | some (.array _ e) => (P.info? e).isSome
  | _ => false
def parts (t : TypeId) (tm : List AV) : List (Nat × Operand) → List AV → Option (List AV)
  | [], cs => some cs
  | (i, x) :: rest, cs =>
    match place? P t i with
    | some (off, n, ty) => match evT P tm ty x with
      | some v => match v.cells with
        | some new => if Nat.beq new.length n && Nat.ble (off + n) cs.length then parts t tm rest (splice cs off new) else none
        | none => none
      | none => none
    | none => none

def rowsOf (e : TypeId) (ks : List Kd) (tm : List AV) : List (Nat × Operand) → Rows → Option Rows
  | [], rs => some rs
  | (i, x) :: rest, rs =>
    match evT P tm e x with
    | some v => match v.row with
      | some r => if Row.ofKds ks r && Nat.blt i rs.length then rowsOf e ks tm rest (rs.set i r) else none
      | none => none
    | none => none

/-- Numbers of small integers' arithmetic. -/
def arith (op : BinOp) (k : IntKind) (x y : Int) : Option AV :=
  match op with
  | .add => some (.I k (k.wrap (x + y)))
  | .sub => some (.I k (k.wrap (x - y)))
  | .mul => some (.I k (k.wrap (x * y)))
  | .eql => some (.B (x == y))
  | .neq => some (.B (x != y))
  | .lss => some (.B (decide (x < y)))
  | .leq => some (.B (decide (x ≤ y)))
  | .gtr => some (.B (decide (x > y)))
  | .geq => some (.B (decide (x ≥ y)))
  | .and => some (.I k (k.wrap (BitVec.ofInt k.bits x &&& BitVec.ofInt k.bits y).toNat))
  | .or => some (.I k (k.wrap (BitVec.ofInt k.bits x ||| BitVec.ofInt k.bits y).toNat))
  | .xor => some (.I k (k.wrap (BitVec.ofInt k.bits x ^^^ BitVec.ofInt k.bits y).toNat))
  | _ => none
def strOp (op : BinOp) (x y : ByteArray) : Option AV :=
  match op with
  | .eql => some (.B (x == y))
  | .neq => some (.B (!(x == y)))
  | .lss => some (.B (Op.bytesLess x.toList y.toList))
  | .leq => some (.B (Op.bytesLess x.toList y.toList || x == y))
  | .gtr => some (.B (!(Op.bytesLess x.toList y.toList || x == y)))
  | .geq => some (.B (!(Op.bytesLess x.toList y.toList)))
  | _ => none
/-- Are two values' cells the same? (whole numbers, bools, texts) -/
def eqK : List Kd → List AV → List AV → Option Bool
  | [], [], [] => some true
  | .b :: ks, .dv (.val (.bool p)) :: l, .dv (.val (.bool q)) :: l' => match eqK ks l l' with | some r => some (p == q && r) | none => none
  | .i k :: ks, .dv (.val (.int k1 p)) :: l, .dv (.val (.int k2 q)) :: l' => if k = k1 then if k = k2 then match eqK ks l l' with | some r => some (p == q && r) | none => none else none else none
  | .s :: ks, .dv (.val (.string p)) :: l, .dv (.val (.string q)) :: l' => match eqK ks l l' with | some r => some (p == q && r) | none => none
  | _, _, _ => none
def plainFields (g : TypeId → Option (List Kd)) : Nat → List Field → Option (List Kd)
  | _, [] => some []
  | off, f :: fs =>
    if f.name != "_" && Nat.beq f.offset off then
      match g f.type with
      | some ks => match size? P f.type, plainFields g (off + ks.length) fs with
        | some n, some l => if Nat.beq n ks.length then some (ks ++ l) else none
        | _, _ => none
      | none => none
    else none
/-- The cells of a type whose values are compared cell by cell. -/
def plainKds : Nat → TypeId → Option (List Kd)
  | 0, _ => none
  | n + 1, t =>
    match P.underlying t with
    | some .bool => some [.b]
    | some (.int k) => some [.i k]
    | some .string => some [.s]
    | some (.struct fs) => if P.stoodInHeld t then none else plainFields P (plainKds n) 0 fs.toList
    | _ => none
termination_by structural n => n

def nilOp (op : BinOp) (n : Bool) : Option AV :=
  match op with
  | .eql => some (.B n)
  | .neq => some (.B (!n))
  | _ => none
def binE (op : BinOp) (t : TypeId) (a b : AV) : Option AV :=
  match a, b with
  | .dv (.val (.int k x)), .dv (.val (.int j y)) => if k = j then arith op k x y else none
  | .dv (.val (.string x)), .dv (.val (.string y)) => strOp op x y
  | .dv (.val (.bool x)), .dv (.val (.bool y)) =>
    match P.underlying t with
    | some .bool => nilOp op (x == y)
    | _ => none
  | .agg x, .agg y =>
    match P.underlying t, plainKds P 9 t with
    | some (.struct _), some ks => if P.eqGuardType P.depth t then none else match eqK ks x y with | some r => nilOp op r | none => none
    | _, _ => none
  | .sl n _ _ _, .sl true _ [] .ex => match P.underlying t with | some (.slice _) => nilOp op n | _ => none
  | .ms .., .sl true _ [] .ex => match P.underlying t with | some (.slice _) => nilOp op false | _ => none
  | .pl _ _, .dv (.val (.pointer none)) => match P.underlying t with | some (.pointer _) => nilOp op false | _ => none
  | .fn _ _, .dv (.val .nilFunc) => match P.underlying t with | some (.func _ _ _) => nilOp op false | _ => none
  | .ifc _ _, .dv (.val .nilIface) => match P.underlying t with | some (.interface _) => nilOp op false | _ => none
  | .dv (.val .nilIface), .dv (.val .nilIface) => match P.underlying t with | some (.interface ms) => (match ms.toList with | [] => nilOp op true | _ => none) | _ => none
  | .dv (.val .nilFunc), .dv (.val .nilFunc) => match P.underlying t with | some (.func _ _ _) => nilOp op true | _ => none
  | .dv (.val (.pointer none)), .dv (.val (.pointer none)) => match P.underlying t with | some (.pointer _) => nilOp op true | _ => none
  | .pl k off, .pl k' off' => match P.underlying t with
    | some (.pointer el) => match size? P el, Nat.beq k k' && Nat.beq off off' with
      | some _, true => nilOp op true
      | _, _ => none
    | _ => none
  | _, _ => none
end

/-- The bytes of rows of bytes. -/
def bytesOf (rows : Rows) : ByteArray := ⟨(rows.map fun r => UInt8.ofNat (Row.I r 0).toNat).toArray⟩
/-- Byte i of a text. -/
def bt (s : ByteArray) (i : Int) : Int := ((s.data.toList.getD i.toNat 0).toNat : Int)

mutual
/-- Without rights. -/
def AV.bare : AV → AV
  | .sl n ks rows _ => .sl n ks rows .no
  | .agg cs => .agg (AV.bareL cs)
  | .tup cs => .tup (AV.bareL cs)
  | .fn f cs => .fn f (AV.bareL cs)
  | .ifc t v => .ifc t v.bare
  | .dv d => .dv d
  | .pl k off => .pl k off
  | .pv ks row off => .pv ks row off
  | .ms k kd off n c => .ms k kd off n c
  | .pa k kd i j => .pa k kd i j
  | .arr kd rows => .arr kd rows
  | .junk => .junk
def AV.bareL : List AV → List AV
  | [] => []
  | a :: l => a.bare :: AV.bareL l
end

/-- The tokens of rights. -/
def Right.toks : Right → List Nat
  | .tok k => [k]
  | _ => []
def AV.topTok : AV → List Nat
  | .sl _ _ _ r => r.toks
  | _ => []
def nodup : List Nat → Bool
  | [] => true
  | k :: l => !mem k l && nodup l
/-! calls: what is handed over -/
mutual
def AV.slotsA : AV → List Nat
  | .pl k _ => [k]
  | .ms k _ _ _ _ => [k]
  | .pa k _ _ _ => [k]
  | .agg cs => AV.slots cs
  | .fn _ cs => AV.slots cs
  | .ifc _ v => AV.slotsA v
  | _ => []
def AV.slots : List AV → List Nat
  | [] => []
  | a :: l => AV.slotsA a ++ AV.slots l
end
def dedup : List Nat → List Nat
  | [] => []
  | k :: l => let r := dedup l; if mem k r then r else k :: r
def index (k : Nat) : List Nat → Nat
  | [] => 0
  | j :: l => if Nat.beq j k then 0 else index k l + 1
def Right.pass : Right → Right
  | .ex => .ex
  | _ => .no
mutual
/-- A value as it is handed over: slot k is the callee's slot 1000 + its place in ks. -/
def AV.pass (ks : List Nat) : AV → AV
  | .dv d => .dv d
  | .sl n kd rows r => .sl n kd rows r.pass
  | .agg cs => .agg (AV.passL ks cs)
  | .pl k off => if mem k ks then .pl (1000 + index k ks) off else .junk
  | .pv kd row off => .pv kd row off
  | .fn f caps => .fn f (AV.passL ks caps)
  | .ifc t v => .ifc t (AV.pass ks v)
  | .ms k kd off n c => if mem k ks then .ms (1000 + index k ks) kd off n c else .junk
  | .pa k kd i j => if mem k ks then .pa (1000 + index k ks) kd i j else .junk
  | .arr kd rows => .arr kd rows
  | _ => .junk
def AV.passL (ks : List Nat) : List AV → List AV
  | [] => []
  | a :: l => AV.pass ks a :: AV.passL ks l
end
def cellsOf (m : Mem) (ks : List Nat) : List Nat → Option (List (List AV))
  | [] => some []
  | k :: l => match lookup m k with
    | some cs => match cellsOf m ks l with
      | some r => some (AV.passL ks cs :: r)
      | none => none
    | none => none
mutual
/-- What comes back: token i is the caller's token 1000 + 8 d + i; slot 1000 + i is ks[i]. -/
def AV.back (ks : List Nat) (d : Nat) : AV → AV
  | .dv v => .dv v
  | .sl n kd rows .no => .sl n kd rows .no
  | .sl n kd rows .ex => .sl n kd rows .ex
  | .sl n kd rows .old => .sl n kd rows .no
  | .sl n kd rows (.tok i) => .sl n kd rows (if Nat.blt i 8 then .tok (1000 + 8 * d + i) else .no)
  | .agg cs => .agg (AV.backL ks d cs)
  | .tup cs => .tup (AV.backL ks d cs)
  | .pl k off => if Nat.ble 1000 k then match ks[k - 1000]? with | some j => .pl j off | none => .junk else .junk
  | .pv kd row off => .pv kd row off
  | .fn f caps => .fn f (AV.backL ks d caps)
  | .ifc t v => .ifc t (AV.back ks d v)
  | .ms k kd off n c => if Nat.ble 1000 k then match ks[k - 1000]? with | some j => .ms j kd off n c | none => .junk else .junk
  | .pa k kd i q => if Nat.ble 1000 k then match ks[k - 1000]? with | some j => .pa j kd i q | none => .junk else .junk
  | .arr kd rows => .arr kd rows
  | .junk => .junk
def AV.backL (ks : List Nat) (d : Nat) : List AV → List AV
  | [] => []
  | a :: l => AV.back ks d a :: AV.backL ks d l
end
mutual
def AV.hasTok : AV → Bool
  | .sl _ _ _ (.tok _) => true
  | .agg cs => AV.hasTokL cs
  | .tup cs => AV.hasTokL cs
  | .fn _ cs => AV.hasTokL cs
  | .ifc _ v => AV.hasTok v
  | _ => false
def AV.hasTokL : List AV → Bool
  | [] => false
  | a :: l => a.hasTok || AV.hasTokL l
end
def zipW (ks : List Nat) (d : Nat) : List Nat → List (List AV) → List (Nat × List AV)
  | k :: l, cs :: e => (k, AV.backL ks d cs) :: zipW ks d l e
  | _, _ => []
def toks8 (d : Nat) : List Nat := [1000+8*d, 1001+8*d, 1002+8*d, 1003+8*d, 1004+8*d, 1005+8*d, 1006+8*d, 1007+8*d]
def callEff (ks : List Nat) (d : Option Tmp) (o : Out) : Eff :=
  match o.ext, o.res.hasTok with
  | [], false => .pure (AV.back ks (d.getD 0) o.res)
  | _, _ => .full (AV.back ks (d.getD 0) o.res) [] (toks8 (d.getD 0)) (zipW ks (d.getD 0) ks o.ext)

def topToks : List AV → List Nat
  | [] => []
  | a :: l => a.topTok ++ topToks l
/-- A value that is lent with its right, as argument i. -/
def Right.lend (i : Nat) (rows : Rows) : Right → Right
  | .tok _ => .tok (500000 + i)
  | .ex => match rows.isEmpty with | true => .tok (500000 + i) | false => .no
  | _ => .no
def AV.lend (ks : List Nat) (i : Nat) : AV → AV
  | .sl n kd rows r => .sl n kd rows (r.lend i rows)
  | a => (AV.pass ks a).bare
def AV.lendL (ks : List Nat) : Nat → List AV → List AV
  | _, [] => []
  | i, a :: l => AV.lend ks i a :: AV.lendL ks (i + 1) l
def lendEff (ks : List Nat) (d : Option Tmp) (lt : List Nat) (o : Out) : Eff :=
  .full (AV.back ks (d.getD 0) o.res) [] (lt ++ toks8 (d.getD 0)) (zipW ks (d.getD 0) ks o.ext)

/-! the operations -/
section
variable (P : Program) (Φ : Orc)
def evs (tm : List AV) : List TypeId → List Operand → Option (List AV)
  | _, [] => some []
  | [], x :: xs => match evT P tm 0 x with
    | some v => match evs tm [] xs with | some l => some (v :: l) | none => none
    | none => none
  | t :: ts, x :: xs => match evT P tm t x with
    | some v => match evs tm ts xs with | some l => some (v :: l) | none => none
    | none => none

def callE {R : Type} (m : Mem) (d : Option Tmp) (f : FuncId) (args : List AV) (k : Eff → Option R) (kp : Eff → Option R) : Option R :=
  let ks := dedup (AV.slots args)
  match cellsOf m ks ks with
  | some ext =>
    match mem (1000000 + f) Φ.hs with
    | false => Φ.call R f (AV.bareL (AV.passL ks args)) ext fun out =>
      match out.pan with
      | false => k (callEff ks d out)
      | true => kp (callEff ks d out)
    | true => match nodup (topToks args) with
      | true => Φ.call R f (AV.lendL ks 0 args) ext fun out =>
        match out.pan with
        | false => k (lendEff ks d (topToks args) out)
        | true => kp (lendEff ks d (topToks args) out)
      | false => none
  | none => none

/-- The right behind an append: where the array is a new one, or was one's own. -/
def appTok (d : Tmp) (r : Right) (rows rows2 : Rows) : Right :=
  match r with
  | .no => .no
  | .ex => match rows.isEmpty || !rows2.isEmpty with | true => .tok d | false => .no
  | .tok _ => .tok d
  | .old => .no
def appendRight (d : Tmp) : Right → Option (List Nat)
  | .no => none
  | .ex => some [d]
  | .tok j => some [d, j]
  | .old => none

/-- Is a type's element of these kinds? -/
def elemOk (t : TypeId) (ks : List Kd) : Bool :=
  match P.underlying t with
  | some (.slice e) => match kdsOf P 9 e, size? P e with | some ke, some n => Kd.sameL ks ke && Nat.beq n ke.length | _, _ => false
  | _ => false

/-- The rows off .. off + n - 1 are a zero value's; others'. -/
def clearE {R : Type} (m : Mem) (ts : List TypeId) (j : Nat) (ks : List Kd) (off n : Nat) (k : Eff → Option R) : Option R :=
  match ts with
  | [t] => match P.underlying t with
    | some (.slice e) => match zeroOf P e, lookupA m j with
      | some z, some (ks2, rows) => match AV.flats z with
        | some zr => match Kd.sameL ks ks2 && Row.ofKds ks zr with
          | true => if off + n ≤ rows.length then k (.full (.tup []) [] [] [(j, [.arr ks (rows.take off ++ List.replicate n zr ++ rows.drop (off + n))])]) else none
          | false => none
        | none => none
      | _, _ => none
    | _ => none
  | _ => none
def copyE {R : Type} (m : Mem) (ts : List TypeId) (j : Nat) (ks : List Kd) (off n : Nat) (ks2 : List Kd) (rows2 : Rows) (k : Eff → Option R) : Option R :=
  match ts with
  | [t, _] => match elemOk P t ks && Kd.sameL ks ks2, lookupA m j with
    | true, some (ks3, rows) => match Kd.sameL ks ks3 with
      | true => if off + n ≤ rows.length then k (.full (.I .i64 (min rows2.length n : Nat)) [] [] [(j, [.arr ks (rows.take off ++ rows2.take (min rows2.length n) ++ rows.drop (off + min rows2.length n))])]) else none
      | false => none
    | _, _ => none
  | _ => none
def builtinE {R : Type} (m : Mem) (d : Option Tmp) (b : Builtin) (ts : List TypeId) (args : List AV) (k : Eff → Option R) : Option R :=
  match b, args with
  | .len, [.dv (.val (.string s))] => match ts with
    | t :: _ => match P.underlying t with
      | some .string => k (.pure (.I .i64 s.size))
      | _ => none
    | [] => none
  | .len, [.sl _ _ rows _] => match ts with
    | t :: _ => match P.underlying t with
      | some (.slice _) => k (.pure (.I .i64 rows.length))
      | _ => none
    | [] => none
  | .len, [.ms _ _ _ n _] => match ts with
    | t :: _ => match P.underlying t with
      | some (.slice _) => k (.pure (.I .i64 n))
      | _ => none
    | [] => none
  | .min, [.dv (.val (.int j x)), .dv (.val (.int l y))] => if j = l then k (.pure (.I j (if y < x then y else x))) else none
  | .max, [.dv (.val (.int j x)), .dv (.val (.int l y))] => if j = l then k (.pure (.I j (if y > x then y else x))) else none
  | .append, [.sl n ks rows r, .sl _ ks2 rows2 _] =>
    match d, ts with
    | some d, [t, t2] =>
      match P.underlying t with
      | some (.slice e) => match P.info? e, kdsOf P 9 e, appendRight d r with
        | some i, some ke, some strike =>
          match i.zero with
          | some z =>
            if Nat.beq t t2 && Kd.sameL ks ke && Kd.sameL ks2 ke && Nat.beq i.size ke.length && Nat.beq z.cells.size i.size && Nat.blt 0 i.bytes then
              if (rows.length + rows2.length) * i.bytes ≤ 140737488355328 then
                k (.full (.sl (n && rows2.isEmpty) ks (rows ++ rows2) (appTok d r rows rows2)) [] strike [])
              else none
            else none
          | none => none
        | _, _, _ => none
      | _ => none
    | _, _ => none
  | .clear, [.ms j ks off n _] => clearE P m ts j ks off n k
  | .copy, [.ms j ks off n _, .sl _ ks2 rows2 _] => copyE P m ts j ks off n ks2 rows2 k
  | _, _ => none

def bound (x : Option AV) (dflt : Int) : Option Int :=
  match x with
  | none => some dflt
  | some (.dv (.val (.int _ n))) => some n
  | _ => none
def evO (tm : List AV) : Option Operand → Option (Option AV)
  | none => some none
  | some x => match evT P tm 0 x with | some v => some (some v) | none => none

def sliceE {R : Type} (x : AV) (lo hi mx : Option AV) (k : Eff → Option R) : Option R :=
  match x with
  | .dv (.val (.string s)) =>
    match mx, bound lo 0, bound hi s.size with
    | none, some l, some h => if 0 ≤ l then if l ≤ h then if h ≤ (s.size : Int) then k (.pure (.S (s.extract l.toNat h.toNat))) else none else none else none
    | _, _, _ => none
  | .sl n ks rows r =>
    match mx with
    | none =>
      match bound lo 0, bound hi rows.length with
      | some l, some h => if 0 ≤ l then if l ≤ h then if h ≤ (rows.length : Int) then
          k (.pure (.sl n ks ((rows.take h.toNat).drop l.toNat) (match hi, r with | none, .ex => .ex | _, _ => .no))) else none else none else none
      | _, _ => none
    | some (.dv (.val (.int _ q))) =>
      match bound lo 0, hi with
      | some l, some (.dv (.val (.int _ h))) => if 0 ≤ l then if l ≤ h then if h ≤ q then if q ≤ (rows.length : Int) then
          k (.pure (.sl n ks ((rows.take h.toNat).drop l.toNat) (if h = q then .ex else .no))) else none else none else none else none
      | _, _ => none
    | _ => none
  | .ms j ks off n c =>
    match mx, bound lo 0, bound hi n with
    | none, some l, some h => if 0 ≤ l then if l ≤ h then if h ≤ (c : Int) then k (.pure (.ms j ks (off + l.toNat) (h.toNat - l.toNat) (c - l.toNat))) else none else none else none
    | _, _, _ => none
  | _ => none

def loadE {R : Type} (m : Mem) (t : TypeId) (a : AV) (k : Eff → Option R) : Option R :=
  match agg? P t, size? P t with
  | some true, some n =>
    match a with
    | .pl j off => match lookupC m j with
      | some cs => if Nat.ble (off + n) cs.length then k (.pure (.agg ((cs.drop off).take n))) else none
      | none => none
    | .pv ks row off => if Nat.ble (off + n) ks.length then k (.pure (.agg (Row.cells row ((ks.drop off).take n) off))) else none
    | .pa j ks i q => match lookupA m j with
      | some (ks2, rows) => if Kd.sameL ks ks2 && Nat.ble (q + n) ks.length then if i < rows.length then k (.pure (.agg (Row.cells (rows.getD i []) ((ks.drop q).take n) q))) else none else none
      | none => none
    | _ => none
  | some false, some _ =>
    match a with
    | .pl j off => match lookupC m j with
      | some cs => match cs[off]? with
        | some v => k (.pure v)
        | none => none
      | none => none
    | .pv ks row off => match ks[off]? with
      | some kd => k (.pure (Row.cell kd row off))
      | none => none
    | .pa j ks i q => match lookupA m j, ks[q]? with
      | some (ks2, rows), some kd => if Kd.sameL ks ks2 then if i < rows.length then k (.pure (Row.cell kd (rows.getD i []) q)) else none else none
      | _, _ => none
    | _ => none
  | _, _ => none

def spliceD (r : Row) (q : Nat) (new : Row) : Row := r.take q ++ new ++ r.drop (q + new.length)
def storeE {R : Type} (m : Mem) (t : TypeId) (a v : AV) (k : Eff → Option R) : Option R :=
  match size? P t, a, v.cells with
  | some n, .pl j off, some new =>
    match lookupC m j with
    | some cs => if Nat.beq new.length n && Nat.ble (off + n) cs.length && AV.areCells new then k (.full .junk [] [] [(j, splice cs off new)]) else none
    | none => none
  | some n, .pa j ks i q, some new =>
    match lookupA m j, AV.flats new with
    | some (ks2, rows), some fl =>
      if Kd.sameL ks ks2 && Nat.beq new.length n && Nat.ble (q + n) ks.length && Row.ofKds ((ks.drop q).take n) fl then
        if i < rows.length then k (.full .junk [] [] [(j, [.arr ks (rows.set i (spliceD (rows.getD i []) q fl))])]) else none
      else none
    | _, _ => none
  | _, _, _ => none

def opE {R : Type} (tm : List AV) (m : Mem) (o : Oper) (k : Eff → Option R) (kp : Eff → Option R) : Option R :=
  match o.op with
  | .move x => match evT P tm o.type x with | some v => k (.pure v) | none => none
  | .assign x => match evT P tm o.type x with | some v => k (.pure v) | none => none
  | .pick c a b =>
    match evT P tm 0 c with
    | some (.dv (.val (.bool true))) => match evT P tm o.type a with | some v => k (.pure v) | none => none
    | some (.dv (.val (.bool false))) => match evT P tm o.type b with | some v => k (.pure v) | none => none
    | _ => none
  | .alloc e =>
    match o.dst, zeroOf P e with
    | some d, some cs => if Nat.blt d 1000 then k (.full (.pl d 0) [d] [] [(d, cs)]) else none
    | _, _ => none
  | .box e x =>
    match o.dst, evT P tm e x with
    | some d, some v => match v.cells with
      | some cs => if Nat.blt d 1000 then k (.full (.pl d 0) [d] [] [(d, AV.scrubL [d] [] cs)]) else none
      | none => none
    | _, _ => none
  | .build t ps =>
    match zeroOf P t, sized P t with
    | some cs, true => match parts P t tm ps.toList cs with
      | some cs => k (.pure (.agg cs))
      | none => none
    | _, _ => none
  | .buildSlice t n ps =>
    match P.underlying t with
    | some (.slice e) => match kdsOf P 9 e, zeroOf P e, size? P e with
      | some ks, some z, some se => match AV.flats z with
        | some zr => match rowsOf P e ks tm ps.toList (List.replicate n zr) with
          | some rows => if Nat.beq se ks.length && Row.ofKds ks zr && Nat.ble (n * se) 16777216 then
              match o.dst with
              | some d => match mem d Φ.hs && Nat.blt d 1000 && Nat.ble n 16777216 with
                | true => k (.full (.ms d ks 0 n n) [d] [] [(d, [.arr ks rows])])
                | false => k (.pure (.sl false ks rows .ex))
              | none => k (.pure (.sl false ks rows .ex))
            else none
          | none => none
        | none => none
      | _, _, _ => none
    | _ => none
  | .load t a => match evT P tm 0 a with | some v => loadE P m t v k | none => none
  | .store t a x => match evT P tm 0 a, evT P tm t x with | some v, some x => storeE P m t v x k | _, _ => none
  | .nilCheck x =>
    match evT P tm 0 x with
    | some (.pl j off) => k (.pure (.pl j off))
    | some (.pv ks row off) => k (.pure (.pv ks row off))
    | some (.pa j ks i q) => k (.pure (.pa j ks i q))
    | some (.fn f caps) => k (.pure (.fn f caps))
    | _ => none
  | .binOp op t x y u =>
    match op with
    | .quo => match evT P tm t x, evT P tm u y with
      | some (.dv (.val (.int j x))), some (.dv (.val (.int l y))) => if j = l then if y = 0 then none else k (.pure (.I j (j.wrap (x.tdiv y)))) else none
      | _, _ => none
    | .rem => match evT P tm t x, evT P tm u y with
      | some (.dv (.val (.int j x))), some (.dv (.val (.int l y))) => if j = l then if y = 0 then none else k (.pure (.I j (x.tmod y))) else none
      | _, _ => none
    | .shl => match evT P tm t x, evT P tm u y with
      | some (.dv (.val (.int j x))), some (.dv (.val (.int _ y))) => if y < 0 then none else k (.pure (.I j (j.wrap (x * 2 ^ (min y.toNat j.bits)))))
      | _, _ => none
    | .shr => match evT P tm t x, evT P tm u y with
      | some (.dv (.val (.int j x))), some (.dv (.val (.int _ y))) => if y < 0 then none else k (.pure (.I j (x.fdiv (2 ^ (min y.toNat j.bits)))))
      | _, _ => none
    | .add => match evT P tm t x, evT P tm u y with
      | some (.dv (.val (.string x))), some (.dv (.val (.string y))) => if x.size + y.size < 4611686018427387904 then k (.pure (.S (x ++ y))) else none
      | some a, some b => match binE P .add t a b with | some v => k (.pure v) | none => none
      | _, _ => none
    | op => match evT P tm t x, evT P tm u y with
      | some a, some b => match binE P op t a b with | some v => k (.pure v) | none => none
      | _, _ => none
  | .unOp op t x =>
    match op, evT P tm t x with
    | .neg, some (.dv (.val (.int j n))) => k (.pure (.I j (j.wrap (0 - n))))
    | .not, some (.dv (.val (.bool b))) => k (.pure (.B (!b)))
    | _, _ => none
  | .convert src dst x =>
    match P.underlying src, P.underlying dst, evT P tm src x with
    | some (.int _), some (.int j), some (.dv (.val (.int _ n))) => k (.pure (.I j (j.wrap n)))
    | some .string, some .string, some (.dv (.val (.string s))) => k (.pure (.S s))
    | some (.slice e), some .string, some (.sl _ [.i .u8] rows _) =>
      match P.underlying e with
      | some (.int .u8) => k (.pure (.S (bytesOf rows)))
      | _ => none
    | _, _, _ => none
  | .makeInterface t x =>
    match P.underlying t, evT P tm t x with
    | some (.interface _), _ => none
    | some _, some v => k (.pure (.ifc t v))
    | _, _ => none
  | .makeFunc (.func f) first caps =>
    match first.toList, evs P tm [] caps.toList with
    | [], some l => k (.pure (.fn f l))
    | _, _ => none
  | .slice t x lo hi mx =>
    match evT P tm t x, evO P tm lo, evO P tm hi, evO P tm mx with
    | some (.dv (.val (.string s))), some l, some h, some q => match P.underlying t with | some .string => sliceE (.S s) l h q k | _ => none
    | some (.sl n ks rows r), some l, some h, some q => if elemOk P t ks then sliceE (.sl n ks rows r) l h q k else none
    | some (.ms j ks off n c), some l, some h, some q => if elemOk P t ks then sliceE (.ms j ks off n c) l h q k else none
    | _, _, _, _ => none
  | .fieldAddr s x f =>
    match field? P s f, evT P tm 0 x with
    | some (off, ft), some (.pl j o) => match size? P ft with | some n => if Nat.blt 0 n then k (.pure (.pl j (o + off))) else none | none => none
    | some (off, ft), some (.pv ks row o) => match size? P ft with | some n => if Nat.blt 0 n then k (.pure (.pv ks row (o + off))) else none | none => none
    | some (off, ft), some (.pa j ks i q) => match size? P ft with | some n => if Nat.blt 0 n then k (.pure (.pa j ks i (q + off))) else none | none => none
    | _, _ => none
  | .field s x f =>
    match field? P s f, evT P tm s x with
    | some (off, ft), some (.agg cs) =>
      match agg? P ft, size? P ft with
      | some true, some n => if Nat.ble (off + n) cs.length then k (.pure (.agg ((cs.drop off).take n))) else none
      | some false, some _ => match cs[off]? with | some v => k (.pure v) | none => none
      | _, _ => none
    | _, _ => none
  | .indexAddr t x i =>
    match evT P tm t x, evT P tm 0 i with
    | some (.sl _ ks rows _), some (.dv (.val (.int _ i))) =>
      if elemOk P t ks && Nat.blt 0 ks.length then if 0 ≤ i then if i < (rows.length : Int) then k (.pure (.pv ks (rows.getD i.toNat []) 0)) else none else none else none
    | some (.ms j ks off n _), some (.dv (.val (.int _ i))) =>
      if elemOk P t ks && Nat.blt 0 ks.length then if 0 ≤ i then if i < (n : Int) then k (.pure (.pa j ks (off + i.toNat) 0)) else none else none else none
    | _, _ => none
  | .index t x i =>
    match evT P tm t x, evT P tm 0 i with
    | some (.dv (.val (.string s))), some (.dv (.val (.int _ i))) =>
      match P.underlying t with
      | some .string => if 0 ≤ i then if i < (s.size : Int) then k (.pure (.I .u8 (bt s i))) else none else none
      | _ => none
    | some (.agg cs), some (.dv (.val (.int _ i))) =>
      match P.underlying t with
      | some (.array l e) => match kdsOf P 9 e, agg? P e, size? P e, AV.flats cs with
        | some [kd], some false, some 1, some row =>
          if Nat.beq cs.length l && Row.ofKds (List.replicate l kd) row then
            if 0 ≤ i then if i < (l : Int) then k (.pure (Row.cell kd row i.toNat)) else none else none
          else none
        | _, _, _, _ => none
      | _ => none
    | _, _ => none
  | .typeAssert x _ t false =>
    match P.underlying t, evT P tm 0 x with
    | some (.interface _), _ => none
    | some _, some (.ifc u v) => if Nat.beq u t then k (.pure v) else none
    | _, _ => none
  | .extract x i =>
    match evT P tm 0 x with
    | some (.tup vs) => match vs[i]? with | some v => k (.pure v) | none => none
    | _ => none
  | .panic x =>
    match evT P tm o.type x with
    | some (.ifc t v) => kp (.pure (.ifc t v))
    | _ => none
  | .call c =>
    match c.callee with
    | .builtin b => match evs P tm c.argTypes.toList c.args.toList with
      | some args => builtinE P m o.dst b c.argTypes.toList args k
      | none => none
    | .value f => match evT P tm 0 f, evs P tm c.argTypes.toList c.args.toList with
      | some (.fn f caps), some args => callE Φ m o.dst f (args ++ caps) k kp
      | _, _ => none
    | _ => none
  | _ => none

inductive Ex where
  | normal | exit (id : Nat) | ret | pan (v : AV)

def Eff.val : Eff → AV
  | .pure r => r
  | .full r _ _ _ => r

def stepE {R : Type} (o : Oper) (s : St) (k : St → Option R) (kp : AV → St → Option R) : Option R :=
  opE P Φ s.t s.m o (fun e => k (s.apply o.dst e)) (fun e => kp e.val (s.apply none e))

def guardTmp : List Oper → Nat → Option Tmp
  | [], _ => none
  | o :: _, 0 => o.dst
  | _ :: l, j + 1 => guardTmp l j

/-! regions whose operations may come in any order that keeps the edges -/
/-- The slots that an operation looks at or writes. -/
def touch (tm : List AV) (o : Oper) : List Nat :=
  match o.op with
  | .load _ x => match evT P tm 0 x with | some (.pl j _) => [j] | some (.pa j _ _ _) => [j] | _ => []
  | .store _ x _ => match evT P tm 0 x with | some (.pl j _) => [j] | some (.pa j _ _ _) => [j] | _ => []
  | .call c => match c.callee with
    | .value f => match evT P tm 0 f, evs P tm c.argTypes.toList c.args.toList with
      | some (.fn _ caps), some args => dedup (AV.slots (args ++ caps))
      | _, _ => []
    | .builtin .clear => match evs P tm c.argTypes.toList c.args.toList with | some args => AV.slots args | none => []
    | .builtin .copy => match evs P tm c.argTypes.toList c.args.toList with | some args => AV.slots args | none => []
    | _ => []
  | _ => []
mutual
/-- Neither pointers to the slots p, nor the tokens ks. -/
def AV.clean (p ks : List Nat) : AV → Bool
  | .sl _ _ _ (.tok k) => !mem k ks
  | .agg cs => AV.cleanL p ks cs
  | .tup cs => AV.cleanL p ks cs
  | .pl k _ => !mem k p
  | .ms k _ _ _ _ => !mem k p
  | .pa k _ _ _ => !mem k p
  | .fn _ cs => AV.cleanL p ks cs
  | .ifc _ v => AV.clean p ks v
  | _ => true
def AV.cleanL (p ks : List Nat) : List AV → Bool
  | [] => true
  | a :: l => AV.clean p ks a && AV.cleanL p ks l
end
def tmpsOf : List Operand → List Nat
  | [] => []
  | .tmp t :: l => t :: tmpsOf l
  | _ :: l => tmpsOf l
/-- The temporaries that an operation looks at. -/
def names (all : List Oper) (o : Oper) : List Nat :=
  match o.guard with
  | none => tmpsOf o.op.operands.toList
  | some (g, _) => match guardTmp all g with
    | some d => d :: tmpsOf o.op.operands.toList
    | none => tmpsOf o.op.operands.toList
/-- The slots and tokens that an operation makes. -/
def ownP (o : Oper) : List Nat :=
  match o.op, o.dst with
  | .alloc _, some d => [d]
  | .box _ _, some d => [d]
  | _, _ => []
def ownK (o : Oper) : List Nat :=
  match o.op with
  | .call c => match c.callee with
    | .builtin _ => match o.dst with | some d => [d] | none => []
    | _ => match o.dst with | some d => toks8 d | none => toks8 0
  | _ => []
def bindsOf : List Edge → List Nat
  | [] => []
  | e :: l => match Region.binds .any e with | true => e.on :: bindsOf l | false => bindsOf l
def close (acc : List (List Nat)) : List Nat → List Nat
  | [] => []
  | j :: l => j :: (acc.getD j [] ++ close acc l)
/-- For each operation: those that come before it in every order. -/
def befs : List Oper → List (List Nat) → List (List Nat)
  | [], acc => acc
  | o :: l, acc => befs l (acc ++ [dedup (close acc (bindsOf o.after.toList))])
def bef (B : List (List Nat)) (i j : Nat) : Bool := mem i (B.getD j [])
/-- Is its place in the order fixed? -/
def fixed (B : List (List Nat)) (i : Nat) : Nat → Bool
  | 0 => true
  | j + 1 => (Nat.beq j i || bef B i j || bef B j i) && fixed B i j

structure El where
  o : Oper
  eff : Eff
  want : Bool
  tch : List Nat
  nm : List Nat
  p : List Nat
  k : List Nat
def El.of (all : List Oper) (B : List (List Nat)) (i : Nat) (o : Oper) (eff : Eff) (want : Bool) (tch : List Nat) : El :=
  match fixed B i all.length with
  | true => ⟨o, eff, want, tch, names all o, [], []⟩
  | false => ⟨o, eff, want, tch, names all o, ownP o, ownK o⟩
def strikes (all : List Oper) (B : List (List Nat)) : Nat → List Oper → List Nat × List Nat
  | _, [] => ([], [])
  | i, o :: l => match strikes all B (i + 1) l with
    | (p, k) => match fixed B i all.length with
      | true => (p, k)
      | false => (ownP o ++ p, ownK o ++ k)
def disj : List Nat → List Nat → Bool
  | [], _ => true
  | k :: l, ks => !mem k ks && disj l ks
def keys : List (Nat × List AV) → List Nat
  | [] => []
  | (k, _) :: l => k :: keys l
def cleanW (p ks : List Nat) : List (Nat × List AV) → Bool
  | [] => true
  | (k, cs) :: l => !mem k p && AV.cleanL p ks cs && cleanW p ks l
def Eff.clean (p ks : List Nat) : Eff → Bool
  | .pure r => r.clean p ks
  | .full r _ _ wr => r.clean p ks && cleanW p ks wr
def sub : List Nat → List Nat → Bool
  | [], _ => true
  | k :: l, ks => mem k ks && sub l ks
def Eff.within (p ks : List Nat) : Eff → Bool
  | .pure _ => true
  | .full _ p' ks' _ => sub p' p && sub ks' ks
def Eff.keys : Eff → List Nat
  | .pure _ => []
  | .full _ _ _ wr => Den.keys wr
def dstNot (d : Option Tmp) (l : List Nat) : Bool :=
  match d with
  | some d => !mem d l
  | none => true
def dstNe (d d' : Option Tmp) : Bool :=
  match d, d' with
  | some d, some d' => !Nat.beq d d'
  | _, _ => true
/-- b does not see a. -/
def El.blind (a b : El) : Bool :=
  a.eff.within a.p a.k && dstNot a.o.dst b.nm && disj a.eff.keys b.tch && disj a.p b.tch
def Eff.cleanQ (p ks : List Nat) (e : Eff) : Bool :=
  match p, ks with
  | [], [] => true
  | p, ks => e.clean p ks
/-- May two operations be swapped? (before: does a come first always?) -/
def okPair (before : Bool) (a b : El) : Bool :=
  a.eff.cleanQ b.p b.k &&
  match before with
  | true => true
  | false => b.eff.cleanQ a.p a.k && El.blind a b && El.blind b a && dstNe a.o.dst b.o.dst && disj a.eff.keys b.eff.keys
def okAll (B : List (List Nat)) (j : Nat) : Nat → List El → El → Bool
  | _, [], _ => true
  | i, a :: l, b => okPair (bef B i j) a b && okAll B j (i + 1) l b

/-! a state laid open -/
mutual
def AV.force {R : Type} : AV → (AV → Option R) → Option R
  | .dv d, k => k (.dv d)
  | .sl n ks rows r, k => k (.sl n ks rows r)
  | .agg cs, k => AV.forceL cs fun cs => k (.agg cs)
  | .tup cs, k => AV.forceL cs fun cs => k (.tup cs)
  | .pl i off, k => k (.pl i off)
  | .pv ks row off, k => k (.pv ks row off)
  | .fn f caps, k => AV.forceL caps fun caps => k (.fn f caps)
  | .ifc t v, k => AV.force v fun v => k (.ifc t v)
  | .ms i ks off n c, k => k (.ms i ks off n c)
  | .pa i ks a b, k => k (.pa i ks a b)
  | .arr ks rows, k => k (.arr ks rows)
  | .junk, k => k .junk
def AV.forceL {R : Type} : List AV → (List AV → Option R) → Option R
  | [], k => k []
  | a :: l, k => AV.force a fun a => AV.forceL l fun l => k (a :: l)
end
def forceM {R : Type} : Mem → (Mem → Option R) → Option R
  | [], k => k []
  | (i, cs) :: m, k => AV.forceL cs fun cs => forceM m fun m => k ((i, cs) :: m)
def St.force {R : Type} (s : St) (k : St → Option R) : Option R := AV.forceL s.t fun t => forceM s.m fun m => k { t := t, m := m }

def forceN {R : Type} : List Nat → (List Nat → Option R) → Option R
  | [], k => k []
  | a :: l, k => forceN l fun l => k (a :: l)
def forceNN {R : Type} : List (List Nat) → (List (List Nat) → Option R) → Option R
  | [], k => k []
  | a :: l, k => forceN a fun a => forceNN l fun l => k (a :: l)
def Eff.force {R : Type} : Eff → (Eff → Option R) → Option R
  | .pure r, k => AV.force r fun r => k (.pure r)
  | .full r p ks wr, k => AV.force r fun r => forceN p fun p => forceN ks fun ks => forceM wr fun wr => k (.full r p ks wr)
def El.force {R : Type} : El → (El → Option R) → Option R
  | ⟨o, eff, want, tch, nm, p, ks⟩, k => forceN tch fun tch => forceN nm fun nm => forceN p fun p => forceN ks fun ks => eff.force fun eff => k ⟨o, eff, want, tch, nm, p, ks⟩
def forceEls {R : Type} : List El → (List El → Option R) → Option R
  | [], k => k []
  | a :: l, k => forceEls l fun l => k (a :: l)
def forceSp {R : Type} : List (List Nat) → (List (List Nat) → Option R) → Option R
  | [], k => k []
  | a :: l, k => forceSp l fun l => k (a :: l)
/-- The same as befs, laid open. -/
def befsK {R : Type} : List Oper → List (List Nat) → (List (List Nat) → Option R) → Option R
  | [], acc, k => k acc
  | o :: l, acc, k => forceN (dedup (close acc (bindsOf o.after.toList))) fun row => forceSp (acc ++ [row]) fun acc => befsK l acc k
/-- One operation more of a drawn region. -/
def regN {R : Type} (B : List (List Nat)) (acc : List El) (el : El) (s : St) (go : List El → St → Option R) : Option R :=
  el.force fun el => if okAll B acc.length 0 acc el then forceEls (acc ++ [el]) fun acc => s.force fun s => go acc s else none

/-- All operations from one on come behind operation j. -/
def afters (B : List (List Nat)) (j : Nat) : Nat → Nat → Bool
  | 0, _ => true
  | k + 1, i => bef B j i && afters B j k (i + 1)
/-- The temporaries of those that may come behind operation j, too; they do nothing else. -/
def freeD (B : List (List Nat)) (j : Nat) (nm : List Nat) : Nat → List El → Option (List Nat)
  | _, [] => some []
  | i, el :: l =>
    match freeD B j nm (i + 1) l with
    | none => none
    | some D =>
      match bef B i j with
      | true => some D
      | false =>
        match el.eff, el.o.dst with
        | .pure _, some d => if mem d nm then none else some (d :: D)
        | .pure _, none => some D
        | _, _ => none
def junkT (D : List Nat) : Nat → List AV → List AV
  | _, [] => []
  | i, a :: l => (if mem i D then .junk else a) :: junkT D (i + 1) l
/-- A panic within a drawn region. -/
def regP {R : Type} (kp : AV → St → Option R) (all : List Oper) (B : List (List Nat)) (acc : List El) (o : Oper) (s : St) (e : Eff) : Option R :=
  match afters B acc.length (all.length - (acc.length + 1)) (acc.length + 1), freeD B acc.length (names all o) 0 acc with
  | true, some D => e.force fun e => ((St.mk (junkT D 0 s.t) s.m).apply none e).force fun s => kp e.val s
  | _, _ => none

def regD {R : Type} (kp : AV → St → Option R) (all : List Oper) (B : List (List Nat)) : List Oper → List El → St → (St → Option R) → Option R
  | [], _, s, k => k s
  | o :: rest, acc, s, k =>
    match o.guard with
    | none =>
      opE P Φ s.t s.m o (fun e =>
        regN B acc (El.of all B acc.length o e true (touch P s.t o)) (s.apply o.dst e) (fun acc s => regD kp all B rest acc s k)) (fun e => regP kp all B acc o s e)
    | some (j, want) =>
      match guardTmp all j with
      | none => none
      | some d =>
        match s.t[d]? with
        | some (.dv (.val (.bool b))) =>
          match b, want with
          | true, true =>
            opE P Φ (s.t.set d (.B true)) s.m o (fun e =>
              regN B acc (El.of all B acc.length o e true (touch P (s.t.set d (.B true)) o)) ((St.mk (s.t.set d (.B true)) s.m).apply o.dst e) (fun acc s => regD kp all B rest acc s k)) (fun _ => none)
          | false, false =>
            opE P Φ (s.t.set d (.B false)) s.m o (fun e =>
              regN B acc (El.of all B acc.length o e true (touch P (s.t.set d (.B false)) o)) ((St.mk (s.t.set d (.B false)) s.m).apply o.dst e) (fun acc s => regD kp all B rest acc s k)) (fun _ => none)
          | true, false =>
            regN B acc (El.of all B acc.length o (.pure .junk) false []) ((St.mk (s.t.set d (.B true)) s.m).apply o.dst (.pure .junk)) (fun acc s => regD kp all B rest acc s k)
          | false, true =>
            regN B acc (El.of all B acc.length o (.pure .junk) false []) ((St.mk (s.t.set d (.B false)) s.m).apply o.dst (.pure .junk)) (fun acc s => regD kp all B rest acc s k)
        | _ => none
def strike (p ks : List Nat) (s : St) : St := { t := AV.scrubL p ks s.t, m := scrubM p ks (dropAll s.m p) }
def backs : Nat → List Oper → Bool
  | _, [] => true
  | i, o :: l => backsL i (bindsOf o.after.toList) && backs (i + 1) l
where
  backsL (i : Nat) : List Nat → Bool
  | [] => true
  | j :: l => Nat.blt j i && backsL i l
/-- A drawn region. -/
def regA {R : Type} (kp : AV → St → Option R) (ops : List Oper) (s : St) (k : St → Option R) : Option R :=
  if backs 0 ops then
    befsK ops [] fun B => match strikes ops B 0 ops with
    | (p, ks) => regD P Φ kp ops B ops [] (strike p ks s) k
  else none

/-- A right under a new token. -/
def Right.retok (j : Nat) (rows : Rows) : Right → Right
  | .no => .no
  | .ex => match rows.isEmpty with | true => .tok j | false => .no
  | .tok _ => .tok j
  | .old => .old
def AV.retok (j : Nat) : AV → AV
  | .sl n ks rows r => .sl n ks rows (r.retok j rows)
  | a => a.bare
def retokL : Nat → List AV → List AV
  | _, [] => []
  | j, a :: l => a.retok j :: retokL (j + 1) l
def keepT (tl : List Nat) : Nat → List AV → List AV
  | _, [] => []
  | i, a :: l => (if mem i tl then a else .junk) :: keepT tl (i + 1) l
def keepM (ml : List Nat) : Mem → Mem
  | [] => []
  | (k, cs) :: m => if mem k ml then (k, cs) :: keepM ml m else keepM ml m
def deadM (ml : List Nat) : Mem → List Nat
  | [] => []
  | (k, _) :: m => if mem k ml then deadM ml m else k :: deadM ml m
def memToks : Mem → List Nat
  | [] => []
  | (_, cs) :: m => topToks cs ++ memToks m
def retokM : Mem → Mem
  | [] => []
  | (k, cs) :: m => (k, retokL (20000 + 64 * k) cs) :: retokM m
def shortM : Mem → Bool
  | [] => true
  | (_, cs) :: m => Nat.ble cs.length 64 && shortM m
/-- A state at a loop's head: what is not alive is forgotten; rights have their holders' tokens. -/
def norm (tl ml : List Nat) (s : St) : Option St :=
  let t := AV.scrubL (deadM ml s.m) [] (keepT tl 0 s.t)
  let m := scrubM (deadM ml s.m) [] (keepM ml s.m)
  if nodup (topToks t ++ memToks m) && Nat.ble t.length 1000 && shortM m then some { t := retokL 0 t, m := retokM m } else none

def key : Code → Nat
  | .region id _ _ => id
  | .seq a _ => key a
  | .block _ b => key b
  | .loop b => key b
  | .scope b => key b
  | _ => 0

def loopE {R : Type} (q : Nat) (tl ml : List Nat) (body : (Ex → St → Option R) → St → Option R) : Nat → (Ex → St → Option R) → St → Option R
  | 0, _, _ => none
  | n + 1, K, s => body (fun e s' => match e with
    | .normal => match norm tl ml s' with
      | some s' => loopE q tl ml body n K s'
      | none => none
    | e => K e s') s

abbrev Live := List (Nat × List Nat × List Nat)
def live : Live → Nat → Option (List Nat × List Nat)
  | [], _ => none
  | (j, l) :: r, k => if Nat.beq j k then some l else live r k

/-! slices that are written: thawed, and frozen again -/
def Kd.tag : Kd → Nat
  | .b => 0
  | .i _ => 1
  | .s => 2
  | .sl _ => 3
  | .o => 4
/-- May a cell of this tag stand in a row of such kinds? -/
def Kd.tagIn (t : Nat) : List Kd → Bool
  | [] => false
  | k :: l => Nat.beq k.tag t || Nat.beq k.tag 4 || Kd.tagIn t l
/-- Rows of kinds ls can't lie in an array of rows of kinds ks. -/
def Kd.outs (ks : List Kd) : List Kd → Bool
  | [] => false
  | l :: _ => !(Nat.beq l.tag 4) && !(Kd.tagIn l.tag ks)
mutual
/-- Nor can the rows of a cell's slice, and what they bear. -/
def Kd.inner (ks : List Kd) : Kd → Bool
  | .sl ls => Kd.outs ks ls && Kd.inners ks ls
  | _ => true
def Kd.inners (ks : List Kd) : List Kd → Bool
  | [] => true
  | k :: l => Kd.inner ks k && Kd.inners ks l
end
def DV.melt (ks : List Kd) : DV → AV
  | .val v => .dv (.val v)
  | .sl nl ls rows => match Kd.outs ks ls && Kd.inners ks ls with
    | true => .dv (.sl nl ls rows)
    | false => .junk
def Right.melt (slot j : Nat) (ks : List Kd) (n : Nat) (nl : Bool) (ls : List Kd) (rows : Rows) : Right → AV
  | .old => .sl nl ls rows .old
  | .tok k => match Nat.beq k j with
    | true => match Kd.sameL ks ls with
      | true => .ms slot ks 0 n n
      | false => .junk
    | false => match Kd.inners ks ls with
      | true => .sl nl ls rows (.tok k)
      | false => .junk
  | r => match Kd.outs ks ls && Kd.inners ks ls with
    | true => .sl nl ls rows r
    | false => .junk
mutual
/-- What is left of a value where token j's array, of n rows of kinds ks, is the slot's from now on. -/
def AV.melt (slot j : Nat) (ks : List Kd) (n : Nat) : AV → AV
  | .dv d => d.melt ks
  | .sl nl ls rows r => r.melt slot j ks n nl ls rows
  | .agg cs => .agg (AV.meltL slot j ks n cs)
  | .tup cs => .tup (AV.meltL slot j ks n cs)
  | .pl k off => if Nat.beq k slot then .junk else .pl k off
  | .pv ls row off => match Kd.outs ks ls && Kd.inners ks ls with
    | true => .pv ls row off
    | false => .junk
  | .fn f cs => .fn f (AV.meltL slot j ks n cs)
  | .ifc t v => .ifc t (AV.melt slot j ks n v)
  | .ms k ls off n' c => if Nat.beq k slot then .junk else .ms k ls off n' c
  | .pa k ls i q => if Nat.beq k slot then .junk else .pa k ls i q
  | .arr ls rows => match Kd.inners ks ls with
    | true => .arr ls rows
    | false => .arr ls []
  | .junk => .junk
def AV.meltL (slot j : Nat) (ks : List Kd) (n : Nat) : List AV → List AV
  | [] => []
  | a :: l => AV.melt slot j ks n a :: AV.meltL slot j ks n l
end
def meltM (slot j : Nat) (ks : List Kd) (n : Nat) : Mem → Mem
  | [] => []
  | (k, cs) :: m => (k, AV.meltL slot j ks n cs) :: meltM slot j ks n m
/-- The slice of temp t becomes one that can be written: its array is the slot's. -/
def thaw {R : Type} (t slot : Nat) (s : St) (k : St → Option R) : Option R :=
  match s.t[t]? with
  | some (.sl nl ks rows (.tok j)) =>
    match nl || rows.isEmpty with
    | true => k { t := s.t.set t (.sl nl ks [] (.tok j)), m := s.m }
    | false => match Kd.inners ks ks && Nat.blt slot 1000 with
      | true => k { t := AV.meltL slot j ks rows.length s.t, m := write (meltM slot j ks rows.length (drop s.m slot)) slot [.arr ks rows] }
      | false => none
  | some _ => k s
  | none => none
/-- The array of temp t's slice is known for good. -/
def freeze {R : Type} (t : Nat) (s : St) (k : St → Option R) : Option R :=
  match s.t[t]? with
  | some (.ms slot ks off n _) =>
    match lookupA s.m slot with
    | some (ks2, rows) => match Kd.sameL ks ks2 && Nat.blt slot 1000 with
      | true => if off + n ≤ rows.length then
          k { t := (AV.scrubL [slot] [40000 + t] s.t).set t (.sl false ks ((rows.drop off).take n) (match Nat.beq off 0 with | true => .tok (40000 + t) | false => .no)), m := scrubM [slot] [40000 + t] (drop s.m slot) }
        else none
      | false => none
    | none => none
  | some _ => k s
  | none => none
/-- Is temp t's slice nil? -/
def niled {R : Type} (t : Nat) (s : St) (k : St → Option R) : Option R :=
  match s.t[t]? with
  | some (.sl nl ks rows r) =>
    match nl with
    | true => k { t := s.t.set t (.sl true ks [] .ex), m := s.m }
    | false => k { t := s.t.set t (.sl false ks rows r), m := s.m }
  | some _ => k s
  | none => none
/-- What is done ahead of a region. -/
def pre {R : Type} : List Nat → St → (St → Option R) → Option R
  | [], s, k => k s
  | 0 :: t :: slot :: l, s, k => thaw t slot s fun s => pre l s k
  | 1 :: t :: l, s, k => freeze t s fun s => pre l s k
  | 2 :: t :: l, s, k => niled t s fun s => pre l s k
  | _, _, _ => none
/-- Arguments are of what was known at first. -/
def Right.olden : Right → Right
  | .no => .old
  | r => r
mutual
def AV.olden : AV → AV
  | .sl n kd rows r => .sl n kd rows r.olden
  | .agg cs => .agg (AV.oldenL cs)
  | .tup cs => .tup (AV.oldenL cs)
  | .fn f cs => .fn f (AV.oldenL cs)
  | .ifc t v => .ifc t v.olden
  | .dv d => .dv d
  | .pl k off => .pl k off
  | .pv ks row off => .pv ks row off
  | .ms k kd off n c => .ms k kd off n c
  | .pa k kd i j => .pa k kd i j
  | .arr kd rows => .arr kd rows
  | .junk => .junk
def AV.oldenL : List AV → List AV
  | [] => []
  | a :: l => a.olden :: AV.oldenL l
end

/-- Has it steps ahead of regions? -/
def anyPrep : Live → Bool
  | [] => false
  | (j, _) :: l => Nat.ble 1000000 j || anyPrep l
def prep (lv : Live) (id : Nat) : List Nat := match live lv (1000000 + id) with | some (l, _) => l | none => []

/-- What is done ahead of an operation. -/
def opPrep (lv : Live) (o : Oper) : List Nat := match o.dst with | some d => prep lv (2000000 + d) | none => []
def reg1 {R : Type} (all : List Oper) (o : Oper) (s : St) (k : St → Option R) (kp : AV → St → Option R) : Option R :=
    match o.guard with
    | none => stepE P Φ o s k kp
    | some (j, want) =>
      match guardTmp all j with
      | none => none
      | some d =>
        match s.t[d]? with
        | some (.dv (.val (.bool b))) =>
          match b, want with
          | true, true => stepE P Φ o { t := s.t.set d (.B true), m := s.m } k kp
          | false, false => stepE P Φ o { t := s.t.set d (.B false), m := s.m } k kp
          | true, false => k { t := setT (s.t.set d (.B true)) o.dst (.tup []), m := s.m }
          | false, true => k { t := setT (s.t.set d (.B false)) o.dst (.tup []), m := s.m }
        | some (.tup []) => k { t := setT s.t o.dst (.tup []), m := s.m }
        | _ => none
def regE {R : Type} (lv : Live) (all : List Oper) : List Oper → St → (St → Option R) → (AV → St → Option R) → Option R
  | [], s, k, _ => k s
  | o :: rest, s, k, kp => pre (opPrep lv o) s fun s => reg1 P Φ all o s (fun s' => regE lv all rest s' k kp) kp

def den {R : Type} (lv : Live) (n : Nat) : Code → (Ex → St → Option R) → St → Option R
  | .skip, K, s => K .normal s
  | .region id ops draw, K, s => pre (prep lv id) s fun s =>
    match draw with
    | false => regE P Φ lv ops.toList ops.toList s (fun s => s.force (fun s => K .normal s)) (fun v s => K (.pan v) s)
    | true => regA P Φ (fun v s => K (.pan v) s) ops.toList s (fun s => s.force (fun s => K .normal s))
  | .seq a b, K, s => den lv n a (fun e s' => match e with | .normal => den lv n b K s' | e => K e s') s
  | .cond c a b, K, s =>
    match evT P s.t 0 c with
    | some (.dv (.val (.bool x))) => match x with | true => den lv n a K s | false => den lv n b K s
    | _ => none
  | .block id b, K, s => den lv n b (fun e s' => match e with | .exit j => if Nat.beq j id then K .normal s' else K (.exit j) s' | e => K e s') s
  | .loop b, K, s =>
    match live lv (key b) with
    | some (tl, ml) => match norm tl ml s with
      | some s => loopE (key b) tl ml (fun K s => den lv n b K s) n K s
      | none => none
    | none => none
  | .exit id, K, s => K (.exit id) s
  | .ret, K, s => pre (prep lv 999998) s fun s => K .ret s
  | .scope b, K, s => den lv n b K s
  | .label _, K, s => K .normal s
  | _, _, _ => none

/-- A loop within code, and what stands behind it. -/
structure LoopAt (R : Type) where
  tl : List Nat
  ml : List Nat
  body : (Ex → St → Option R) → St → Option R
  K : Ex → St → Option R
/-- The loop of a key; left: the rounds that the loops about it have left. -/
def find {R : Type} (lv : Live) (n : Nat) (q : Nat) : List Nat → Code → (Ex → St → Option R) → Option (LoopAt R)
  | left, .seq a b, K =>
    match find lv n q left a (fun e s' => match e with | .normal => den P Φ lv n b K s' | e => K e s') with
    | some r => some r
    | none => find lv n q left b K
  | left, .cond _ a b, K =>
    match find lv n q left a K with
    | some r => some r
    | none => find lv n q left b K
  | left, .scope b, K => find lv n q left b K
  | left, .block id b, K => find lv n q left b (fun e s' => match e with | .exit j => if Nat.beq j id then K .normal s' else K (.exit j) s' | e => K e s')
  | left, .loop b, K =>
    match live lv (key b) with
    | none => none
    | some (tl, ml) =>
      if Nat.beq (key b) q then some ⟨tl, ml, fun K s => den P Φ lv n b K s, K⟩ else
      match left with
      | [] => none
      | i :: left => find lv n q left b (fun e s' => match e with
        | .normal => match norm tl ml s' with
          | some s' => loopE (key b) tl ml (fun K s => den P Φ lv n b K s) i K s'
          | none => none
        | e => K e s')
  | _, _, _ => none

def zipExt : Nat → List (List AV) → Mem
  | _, [] => []
  | i, cs :: e => (i, cs) :: zipExt (i + 1) e
def extOf (m : Mem) : Nat → List (List AV) → Option (List (List AV))
  | _, [] => some []
  | i, _ :: e => match lookup m i with
    | some cs => match extOf m (i + 1) e with
      | some r => some (AV.bareL cs :: r)
      | none => none
    | none => none
def resE {R : Type} (s : St) : List ResultVar → (List AV → Option R) → Option R
  | [], k => k []
  | .tmp t :: l, k => match s.t[t]? with
    | some v => resE s l fun vs => k (v :: vs)
    | none => none
  | .cell a t :: l, k => match s.t[a]? with
    | some v => loadE P s.m t v fun e => resE s l fun vs => k (e.val :: vs)
    | none => none
/-- Nothing hangs on what was known at first. -/
def AV.young : AV → AV
  | .sl n ks rows .old => .sl n ks rows .no
  | a => a
def youngL : List AV → List AV
  | [] => []
  | a :: l => a.young :: youngL l
def canon (keep : Bool) (vs : List AV) : Option AV :=
  match keep with
  | true => match vs with
    | [.agg cs] => if nodup (topToks (youngL cs)) then some (.agg (retokL 0 (youngL cs))) else none
    | vs => if nodup (topToks (youngL vs)) then (match youngL vs with | [v] => some (v.retok 0) | vs => some (.tup (retokL 0 vs))) else none
  | false => match vs with | [v] => some v.bare | vs => some (.tup (AV.bareL vs))
/-- What stands behind a function's body. -/
def fin {R : Type} (fn : Func) (keep : Bool) (ext : List (List AV)) (K : Out → Option R) (e : Ex) (s : St) : Option R :=
  match e with
  | .exit _ => none
  | .pan v => match extOf s.m 1000 ext with
    | some ex => K ⟨true, v.bare, ex⟩
    | none => none
  | _ => resE P s fn.results.toList fun vs => match canon keep vs, extOf s.m 1000 ext with
    | some v, some ex => K ⟨false, v, ex⟩
    | _, _ => none
def denFn {R : Type} (lv : Live) (n : Nat) (fn : Func) (keep : Bool) (args : List AV) (ext : List (List AV)) (K : Out → Option R) : Option R :=
  match fn.body with
  | none => none
  | some c =>
    if Nat.ble args.length fn.ntmps && !(AV.hasTokL args && anyPrep lv) then
      den P Φ lv n c (fin P fn keep ext K) { t := (match live lv 999999 with | some _ => AV.oldenL args | none => args) ++ List.replicate (fn.ntmps - args.length) .junk, m := zipExt 1000 ext }
    else none
/-- A function from a loop's head on: i rounds are left; left: of the loops about it. -/
def loopFn {R : Type} (lv : Live) (n : Nat) (fn : Func) (keep : Bool) (ext : List (List AV)) (K : Out → Option R) (q : Nat) (left : List Nat) (i : Nat) (s : St) : Option R :=
  match fn.body with
  | none => none
  | some c =>
    match find P Φ lv n q left c (fin P fn keep ext K) with
    | some r => loopE q r.tl r.ml r.body i r.K s
    | none => none
/-! functions that defer a call of a function value, which recovers -/
/-- A region of two operations whose second one defers. -/
def deferOf : Code → Option (Oper × Operand)
  | .region _ ops false =>
    match ops.toList with
    | [o1, o2] =>
      match o1.guard, o2.guard, o2.dst, o2.op with
      | none, none, none, .defer c => match c.callee, c.args.toList with
        | .value f, [] => some (o1, f)
        | _, _ => none
      | _, _, _, _ => none
    | _ => none
  | _ => none
/-- What stands behind it. -/
def behind : Code → Option Code
  | .seq a b => match deferOf a with
    | some _ => some b
    | none => behind b
  | _ => none
def isRecover (o : Oper) : Bool :=
  match o.op, o.guard with
  | .call c, none => match c.callee, c.args.toList with
    | .builtin .recover, [] => true
    | _, _ => false
  | _, _ => false
def AV.isPl : AV → Bool
  | .pl k _ => Nat.ble 1000 k
  | _ => false
def allPl : List AV → Bool
  | [] => true
  | a :: l => a.isPl && allPl l
mutual
/-- Neither slots nor tokens. -/
def AV.loose : AV → Bool
  | .dv _ => true
  | .sl _ _ _ .no => true
  | .sl _ _ _ .ex => true
  | .agg cs => AV.looseL cs
  | .tup cs => AV.looseL cs
  | .junk => true
  | _ => false
def AV.looseL : List AV → Bool
  | [] => true
  | a :: l => a.loose && AV.looseL l
end
def ahead {R : Type} (lv : Live) (n : Nat) (kD : FuncId → List AV → Code → St → Option R) (K : Ex → St → Option R) : Code → St → Option R
  | .seq a b, s =>
    match deferOf a with
    | some (o1, f) => stepE P Φ o1 s (fun s => match evT P s.t 0 f with
      | some (.fn g caps) => kD g caps b s
      | _ => none) (fun v s => K (.pan v) s)
    | none => den P Φ lv n a (fun e s' => match e with | .normal => ahead lv n kD K b s' | e => K e s') s
  | _, _ => none
/-- The deferred function: rv is what recover tells it. -/
def denClo {R : Type} (lv : Live) (n : Nat) (fn : Func) (rv : AV) (args : List AV) (ext : List (List AV)) (K : Out → Option R) : Option R :=
  match fn.body with
  | some (.seq (.region _ ops false) b) =>
    match ops.toList with
    | o :: os =>
      match isRecover o && Nat.ble args.length fn.ntmps with
      | true => (St.mk (setT (args ++ List.replicate (fn.ntmps - args.length) .junk) o.dst rv) (zipExt 1000 ext)).force fun s => regE P Φ [] (o :: os) os s
          (fun s => s.force (fun s => den P Φ lv n b (fin P fn false ext K) s)) (fun v s => fin P fn false ext K (.pan v) s)
      | false => none
    | [] => none
  | _ => none
/-- How a function with a deferred call is left: u is what it panics with. -/
def leaveU {R : Type} (lvC : Live) (n : Nat) (fn g : Func) (gid : FuncId) (caps : List AV) (K : Out → Option R) (rv : List Nat → AV) (s : St) : Option R :=
  forceN (dedup (AV.slots caps)) fun ks =>
  match cellsOf s.m ks ks with
  | some ext => denClo P Φ lvC n g (rv ks) (AV.passL ks caps) ext (fun out => match out.pan with
    | false => (s.apply none (callEff ks none out)).force fun s => resE P s fn.results.toList fun vs => match canon false vs with
      | some v => match v.loose with
        | true => K ⟨false, v, []⟩
        | false => none
      | none => none
    | true => none)
  | none => none
def leaveE {R : Type} (lvC : Live) (n : Nat) (fn g : Func) (gid : FuncId) (caps : List AV) (K : Out → Option R) (e : Ex) (s : St) : Option R :=
  match e with
  | .exit _ => none
  | .pan v => leaveU P Φ lvC n fn g gid caps K (fun ks => AV.pass ks v) s
  | _ => leaveU P Φ lvC n fn g gid caps K (fun _ => .dv (.val .nilIface)) s
/-- A function that defers a call of function gid. -/
def denFnD {R : Type} (lv : Live) (n : Nat) (fn g : Func) (gid : FuncId) (lvC : Live) (args : List AV) (K : Out → Option R) : Option R :=
  match fn.body with
  | none => none
  | some c =>
    if Nat.ble args.length fn.ntmps && !(AV.hasTokL args) then
      ahead P Φ lv n (fun f caps b s =>
        forceN (dedup (AV.slots s.t)) fun ks => AV.forceL (AV.passL ks caps) fun caps =>
        match Nat.beq f gid && allPl caps, cellsOf s.m ks ks with
        | true, some ext => (St.mk (AV.passL ks s.t) (zipExt 1000 ext)).force fun s => den P Φ lv n b (leaveE P Φ lvC n fn g gid caps K) s
        | _, _ => none) (fin P fn false [] K) c { t := args ++ List.replicate (fn.ntmps - args.length) .junk, m := zipExt 1000 [] }
    else none
/-- Such a function from a loop's head on, behind the defer. -/
def loopFnD {R : Type} (lv : Live) (n : Nat) (fn g : Func) (gid : FuncId) (lvC : Live) (caps : List AV) (K : Out → Option R) (q : Nat) (left : List Nat) (i : Nat) (s : St) : Option R :=
  match fn.body with
  | none => none
  | some c =>
    match behind c with
    | none => none
    | some b =>
      match find P Φ lv n q left b (leaveE P Φ lvC n fn g gid caps K) with
      | some r => loopE q r.tl r.ml r.body i r.K s
      | none => none
end
/-- A function that is inlined: its live sets. -/
abbrev Tab := List (FuncId × Live × List Nat)
def Tab.live : Tab → FuncId → Option (Live × List Nat)
  | [], _ => none
  | (g, lv) :: l, f => if Nat.beq g f then some lv else Tab.live l f
/-- The oracle that knows a table's functions by their bodies. -/
def inl (P : Program) (T : Tab) (n : Nat) (Φ : Orc) : Nat → List Nat → Orc
  | 0, hs => ⟨Φ.call, hs⟩
  | d + 1, hs => ⟨fun R f args ext k =>
    match Tab.live T f with
    | none => Φ.call R f args ext k
    | some (lv, hs') => match P.funcs[f]? with
      | some fn => denFn P (inl P T n Φ d hs') lv n fn true args ext k
      | none => none, hs⟩
/-- The oracle of specifications. -/
abbrev Spec := ∀ R : Type, FuncId → List AV → List (List AV) → (Out → Option R) → Option R
abbrev Spec1 := ∀ R : Type, List AV → List (List AV) → (Out → Option R) → Option R
def bareLL : List (List AV) → List (List AV)
  | [] => []
  | l :: r => AV.bareL l :: bareLL r
def Spec.none : Spec := fun _ _ _ _ _ => Option.none
def Spec.orc (σ : Spec) (hs : List Nat) : Orc := ⟨fun R f args ext k => σ R f args (bareLL ext) k, hs⟩
/-- One function's specification, ahead of others. -/
def sp (f0 : FuncId) (g : Spec1) (τ : Spec) : Spec := fun R f args ext k => match Nat.beq f f0 with | true => g R args ext k | false => τ R f args ext k
/-- Specifications, with the functions of a table inlined. -/
def with_ (P : Program) (σ : Spec) (T : Tab) (n d : Nat) (hs : List Nat) : Orc := inl P T n (σ.orc []) d hs
def big : Nat := 4611686018427387904
end Go.Den
