import Derived.Calls
import Derived.Below
import Derived.Orders
import Derived.Laws.CopyRow
import Derived.Laws.Cells
import Derived.Laws.AppendOwn
import Derived.Lib.ItoaNum
import Derived.Lib.AppendStr
import Derived.Laws.Tables
import Derived.Laws.Build
set_option linter.unusedVariables false
set_option linter.unusedSimpArgs false
set_option linter.unusedSectionVars false
namespace Go.Den

inductive Kd where
 |b | i (k : IntKind) | s | sl (ks : List Kd) | o

mutual
def Kd.same : Kd → Kd → Bool
 | .b, .b => true
 | .i k, .i l => decide (k = l)
 | .s, .s => true
 | .sl a, .sl c => Kd.sameL a c
 | .o, .o => true
 |_, _ => false
def Kd.sameL : List Kd → List Kd → Bool
 |[], [] => true
 |a1 :: x, a2 :: y => Kd.same a1 a2 && Kd.sameL x y
 |_, _ => false
end

inductive DV where
 |val (v : Value)
 |sl (nl : Bool) (ks : List Kd) (rows : List (List DV))
abbrev Row := List DV
abbrev Rows := List (List DV)

inductive Right where
 |no | ex | tok (k : Nat) | old

inductive AV where
 |dv (d : DV)
 |sl (nl : Bool) (ks : List Kd) (rows : Rows) (r : Right)
 |agg (cs : List AV)
 |tup (vs : List AV)
 |pl (k off : Nat)
 |pv (ks : List Kd) (row : Row) (off : Nat)
 |fn (f : FuncId) (caps : List AV)
 |ifc (t : TypeId) (v : AV)
 |ms (k : Nat) (ks : List Kd) (off n c : Nat)
 |pa (k : Nat) (ks : List Kd) (i j : Nat)
 |arr (ks : List Kd) (rows : Rows)
 |junk

@[reducible] def AV.B (x : Bool) : AV := .dv (.val (.bool x))
@[reducible] def AV.I (k : IntKind) (n : Int) : AV := .dv (.val (.int k n))
@[reducible] def AV.S (s : ByteArray) : AV := .dv (.val (.string s))

def DV.toB : DV → Bool | .val (.bool x) => x | _ => false
def DV.toI : DV → Int | .val (.int _ n) => n | _ => 0
def DV.toS : DV → ByteArray | .val (.string s) => s | _ => .empty
def DV.toNl : DV → Bool | .sl n _ _ => n | _ => true
def DV.toRows : DV → Rows | .sl _ _ r => r | _ => []
def DV.toV : DV → Value | .val v => v | _ => undef
def Row.at (r : Row) (j : Nat) : DV := r.getD j (.val undef)
def Row.B (r : Row) (j : Nat) : Bool := (Row.at r j).toB
def Row.I (r : Row) (j : Nat) : Int := (Row.at r j).toI
def Row.S (r : Row) (j : Nat) : ByteArray := (Row.at r j).toS
def Row.N (r : Row) (j : Nat) : Bool := (Row.at r j).toNl
def Row.R (r : Row) (j : Nat) : Rows := (Row.at r j).toRows
def Row.V (r : Row) (j : Nat) : Value := (Row.at r j).toV

def Row.cell (k : Kd) (r : Row) (j : Nat) : AV :=
 match k with
 | .b => .B (r.B j)
 | .i k => .I k (r.I j)
 | .s => .S (r.S j)
 | .sl ks => .sl (r.N j) ks (r.R j) .no
 | .o => .dv (.val (r.V j))
def Row.cells (r : Row) : List Kd → Nat → List AV
 |[], _ => []
 |k :: ks, j => Row.cell k r j :: Row.cells r ks (j + 1)

def DV.ofKd : Kd → DV → Bool
 | .b, .val (.bool _) => true
 | .i k, .val (.int l _) => decide (k = l)
 | .s, .val (.string _) => true
 | .sl ks, .sl _ ls _ => Kd.sameL ks ls
 | .o, .val _ => true
 |_, _ => false
def Row.ofKds : List Kd → Row → Bool
 |[], [] => true
 |k :: ks, d :: ds => DV.ofKd k d && Row.ofKds ks ds
 |_, _ => false

def AV.flat : AV → Option DV
 | .dv d => some d
 | .sl n ks rows _ => some (.sl n ks rows)
 |_ => none
def AV.flats : List AV → Option Row
 |[] => some []
 |a :: l => match a.flat with
  |some d => match AV.flats l with
   |some r => some (d :: r)
   |none => none
  |none => none
def AV.row : AV → Option Row
 | .agg cs => AV.flats cs
 |a => match a.flat with
  |some d => some [d]
  |none => none

abbrev Mem := List (Nat × List AV)
structure St where
 t : List AV
 m : Mem

def lookup (m : Mem) (k : Nat) : Option (List AV) :=
 match m with
 |[] => none
 |(j, cs) :: r => if Nat.beq j k then some cs else lookup r k
def mapOff : Nat := 1000000000
def isMp : List AV → Bool
 |[.dv (.val .nilFunc), .arr _ _] => true
 |[.dv (.val (.pointer none)), .arr _ _] => true
 |_ => false
def mpTag (ag : Bool) : AV := match ag with | true => .dv (.val (.pointer none)) | false => .dv (.val .nilFunc)
def plain : List AV → Bool
 |[.arr _ _] => false
 |[.dv (.val .nilFunc), .arr _ _] => false
 |[.dv (.val (.pointer none)), .arr _ _] => false
 |_ => true
def lookupM (m : Mem) (k : Nat) : Option (Bool × List Kd × Rows) :=
 match lookup m k with
 |some [.dv (.val .nilFunc), .arr ks rows] => some (false, ks, rows)
 |some [.dv (.val (.pointer none)), .arr ks rows] => some (true, ks, rows)
 |_ => none
def sameD : DV → DV → Bool
 | .val (.string a), .val (.string b) => a == b
 | .val (.int _ a), .val (.int _ b) => a == b
 | .val (.bool a), .val (.bool b) => a == b
 |_, _ => false
def mhas : Rows → DV → Bool
 |[], _ => false
 |r :: l, d => sameD d (Row.at r 0) || mhas l d
def mget : Rows → DV → Row → Row
 |[], _, z => z
 |r :: l, d, z => bif sameD d (Row.at r 0) then r else mget l d z
def mput : Rows → DV → Row → Rows
 |[], _, n => [n]
 |r :: l, d, n => bif sameD d (Row.at r 0) then n :: l else r :: mput l d n
def lookupC (m : Mem) (k : Nat) : Option (List AV) :=
 match lookup m k with
 |some cs => match plain cs with | true => some cs | false => none
 |none => none
def lookupA (m : Mem) (k : Nat) : Option (List Kd × Rows) :=
 match lookup m k with
 |some [.arr ks rows] => some (ks, rows)
 |_ => none
def drop (m : Mem) (k : Nat) : Mem :=
 match m with
 |[] => []
 |(j, cs) :: r => if Nat.beq j k then drop r k else (j, cs) :: drop r k
def write (m : Mem) (k : Nat) (cs : List AV) : Mem :=
 match m with
 |[] => [(k, cs)]
 |(j, ds) :: r => if Nat.beq j k then (k, cs) :: r else (j, ds) :: write r k cs
def writes (m : Mem) : List (Nat × List AV) → Mem
 |[] => m
 |(k, cs) :: l => writes (write m k cs) l

def mem (k : Nat) : List Nat → Bool
 |[] => false
 |j :: l => Nat.beq j k || mem k l

def Right.scrub (ks : List Nat) : Right → Right
 | .tok k => if mem k ks then .no else .tok k
 |r => r
def pvOff (off : Nat) : Nat := Nat.mod off 3000000000
def isOld (off : Nat) : Bool := Nat.ble 3000000000 off
mutual
def AV.scrub (p : List Nat) (ks : List Nat) : AV → AV
 | .sl n kd rows r => .sl n kd rows (r.scrub ks)
 | .agg cs => .agg (AV.scrubL p ks cs)
 | .tup cs => .tup (AV.scrubL p ks cs)
 | .pl k off => if mem k p then .junk else .pl k off
 | .fn f caps => .fn f (AV.scrubL p ks caps)
 | .ifc t v => .ifc t (AV.scrub p ks v)
 | .dv d => .dv d
 | .pv kd row off => .pv kd row off
 | .ms k kd off n c => if mem k p then .junk else .ms k kd off n c
 | .pa k kd i j => if mem k p then .junk else .pa k kd i j
 | .arr kd rows => .arr kd rows
 | .junk => .junk
def AV.scrubL (p : List Nat) (ks : List Nat) : List AV → List AV
 |[] => []
 |a :: l => AV.scrub p ks a :: AV.scrubL p ks l
end
def scrubM (p ks : List Nat) : Mem → Mem
 |[] => []
 |(k, cs) :: m => (k, AV.scrubL p ks cs) :: scrubM p ks m

def u8k : List Kd → Bool
 |[.i .u8] => true
 |_ => false
def virgin : List AV → Bool
 |[.dv (.val (.pointer none)), .sl true [.i .u8] [] _, .dv (.val (.bool _))] => true
 |_ => false
def virLe (cs cs0 : List AV) : Bool := match virgin cs with | true => virgin cs0 | false => true

inductive Eff where
 |pure (r : AV)
 |full (r : AV) (p ks : List Nat) (wr : List (Nat × List AV))

def setT (t : List AV) (d : Option Tmp) (r : AV) : List AV :=
 match d with
 |some d => t.set d r
 |none => t

def dropAll (m : Mem) : List Nat → Mem
 |[] => m
 |k :: l => dropAll (drop m k) l

def tidy : Mem → Mem
 |[] => []
 |(k, []) :: m => drop (tidy m) k
 |(k, c :: cs) :: m => (k, c :: cs) :: tidy m
def St.apply (s : St) (d : Option Tmp) : Eff → St
 | .pure r => { t := setT s.t d r, m := s.m }
 | .full r p ks wr => { t := setT (AV.scrubL p ks s.t) d r, m := tidy (writes (scrubM p ks (dropAll s.m p)) wr) }

structure Out where
 pan : Bool
 res : AV
 ext : List (List AV)

structure Orc where
 call : ∀ R : Type, FuncId → List AV → List (List AV) → (Out → Option R) → Option R
 hs : List Nat := []

section
variable (P : Program)
def size? (t : TypeId) : Option Nat := match P.info? t with | some i => some i.size | none => none
def bytes? (t : TypeId) : Option Nat := match P.info? t with | some i => some i.bytes | none => none
def agg? (t : TypeId) : Option Bool :=
 match P.underlying t with
 |some (.struct _) => some true
 |some (.array _ _) => some true
 |some _ => some false
 |none => none
def vtOk (t : TypeId) : Bool := match P.info? t with | some i => (match i.desc with | .named _ _ => i.str == "show.printer" | _ => false) | none => false
def virOk (t : TypeId) (cs : List AV) : Bool := match virgin cs with | true => vtOk P t | false => true
def u8Ok (t : TypeId) : Bool := match P.info? t with | some i => (match i.desc with | .int .u8 => i.str == "uint8" | _ => false) | none => false
def u8El (t : TypeId) (ks : List Kd) : Bool := match u8k ks with | true => u8Ok P t | false => true
def fieldsKds (g : TypeId → Option (List Kd)) : List Field → Option (List Kd)
 |[] => some []
 |f :: fs => match g f.type with
  |some ks => match fieldsKds g fs with | some l => some (ks ++ l) | none => none
  |none => none
def kdsOf : Nat → TypeId → Option (List Kd)
 |0, _ => none
 |n + 1, t =>
  match P.underlying t with
  |some .bool => some [.b]
  |some (.int k) => some [.i k]
  |some .string => some [.s]
  |some (.slice e) => match kdsOf n e with | some ks => some [.sl ks] | none => none
  |some (.struct fs) => fieldsKds (kdsOf n) fs.toList
  |some (.array l e) => match kdsOf n e with | some ks => some (List.flatten (List.replicate l ks)) | none => none
  |some (.func _ _ _) => some [.o]
  |some (.pointer _) => some [.o]
  |some (.interface _) => some [.o]
  |some (.map _ _) => some [.o]
  |_ => none
termination_by structural n => n

def ofConst (t : TypeId) : Value → Option AV
 | .bool b => some (.B b)
 | .int k n => some (.I k n)
 | .string s => some (.S s)
 | .pointer none => some (.dv (.val (.pointer none)))
 | .nilFunc => some (.dv (.val .nilFunc))
 | .nilIface => some (.dv (.val .nilIface))
 | .slice none 0 0 =>
  match P.underlying t with
  |some (.slice e) => match kdsOf P 9 e with | some ks => some (.sl true ks [] .ex) | none => none
  |_ => none
 |_ => none
def zeroAVs : List Kd → List Value → Option (List AV)
 |[], [] => some []
 | .b :: ks, .bool b :: vs => match zeroAVs ks vs with | some l => some (.B b :: l) | none => none
 | .i k :: ks, .int j n :: vs => if k = j then match zeroAVs ks vs with | some l => some (.I k n :: l) | none => none else none
 | .s :: ks, .string s :: vs => match zeroAVs ks vs with | some l => some (.S s :: l) | none => none
 | .sl kd :: ks, .slice none 0 0 :: vs => match zeroAVs ks vs with | some l => some (.sl true kd [] .ex :: l) | none => none
 | .o :: ks, .pointer none :: vs => match zeroAVs ks vs with | some l => some (.dv (.val (.pointer none)) :: l) | none => none
 | .o :: ks, .nilFunc :: vs => match zeroAVs ks vs with | some l => some (.dv (.val .nilFunc) :: l) | none => none
 | .o :: ks, .nilIface :: vs => match zeroAVs ks vs with | some l => some (.dv (.val .nilIface) :: l) | none => none
 | .o :: ks, .map none :: vs => match zeroAVs ks vs with | some l => some (.dv (.val (.map none)) :: l) | none => none
 |_, _ => none
def zeroOf (t : TypeId) : Option (List AV) :=
 match P.info? t with
 |some i => match i.zero with
  |some z => match kdsOf P 9 t with
   |some ks => zeroAVs ks z.cells.toList
   |none => none
  |none => none
 |none => none

def evT (t : List AV) (ty : TypeId) : Operand → Option AV
 | .tmp i => t[i]?
 | .const v => ofConst P ty v
 | .func f => some (.fn f [])
 | .global _ => none

def AV.cells : AV → Option (List AV)
 | .agg cs => some cs
 | .tup _ => none
 | .junk => none
 |a => some [a]
def AV.isCell : AV → Bool
 | .dv (.val (.agg _)) => false
 | .dv (.val (.tuple _)) => false
 | .dv _ => true
 | .sl .. => true
 | .pl .. => true
 | .pv .. => true
 | .fn .. => true
 | .ifc .. => true
 | .ms .. => true
 | .pa .. => true
 |_ => false
def AV.areCells : List AV → Bool
 |[] => true
 |a :: l => a.isCell && AV.areCells l

def splice (cs : List AV) (off : Nat) (new : List AV) : List AV := cs.take off ++ new ++ cs.drop (off + new.length)

def field? (t : TypeId) (i : Nat) : Option (Nat × TypeId) :=
 match P.underlying t with
 |some (.struct fs) => match fs[i]? with | some f => some (f.offset, f.type) | none => none
 |_ => none
def place? (t : TypeId) (i : Nat) : Option (Nat × Nat × TypeId) :=
 match P.underlying t with
 |some (.struct fs) => match fs[i]? with | some f => (match size? P f.type with | some n => some (f.offset, n, f.type) | none => none) | none => none
 |some (.array _ e) => match size? P e with | some n => some (i * n, n, e) | none => none
 |_ => none

def sized (t : TypeId) : Bool :=
 match P.underlying t with
 |some (.struct fs) => (fs.toList.mapM (fun f => (P.info? f.type).map fun i => (f.offset, i.size))).isSome
 |some (.array _ e) => (P.info? e).isSome
 |_ => false
def parts (t : TypeId) (tm : List AV) : List (Nat × Operand) → List AV → Option (List AV)
 |[], cs => some cs
 |(i, x) :: rest, cs =>
  match place? P t i with
  |some (off, n, ty) => match evT P tm ty x with
   |some v => match v.cells with
    |some new => if Nat.beq new.length n && Nat.ble (off + n) cs.length then parts t tm rest (splice cs off new) else none
    |none => none
   |none => none
  |none => none

def rowsOf (e : TypeId) (ks : List Kd) (tm : List AV) : List (Nat × Operand) → Rows → Option Rows
 |[], rs => some rs
 |(i, x) :: rest, rs =>
  match evT P tm e x with
  |some v => match v.row with
   |some r => if Row.ofKds ks r && Nat.blt i rs.length then rowsOf e ks tm rest (rs.set i r) else none
   |none => none
  |none => none

def arith (op : BinOp) (k : IntKind) (x y : Int) : Option AV :=
 match op with
 | .add => some (.I k (k.wrap (x + y)))
 | .sub => some (.I k (k.wrap (x - y)))
 | .mul => some (.I k (k.wrap (x * y)))
 | .eql => some (.B (x == y))
 | .neq => some (.B (x != y))
 | .lss => some (.B (decide (x < y)))
 | .leq => some (.B (decide (x ≤ y)))
 | .gtr => some (.B (decide (x > y)))
 | .geq => some (.B (decide (x ≥ y)))
 | .and => some (.I k (k.wrap (BitVec.ofInt k.bits x &&& BitVec.ofInt k.bits y).toNat))
 | .or => some (.I k (k.wrap (BitVec.ofInt k.bits x ||| BitVec.ofInt k.bits y).toNat))
 | .xor => some (.I k (k.wrap (BitVec.ofInt k.bits x ^^^ BitVec.ofInt k.bits y).toNat))
 |_ => none
def strOp (op : BinOp) (x y : ByteArray) : Option AV :=
 match op with
 | .eql => some (.B (x == y))
 | .neq => some (.B (!(x == y)))
 | .lss => some (.B (Op.bytesLess x.toList y.toList))
 | .leq => some (.B (Op.bytesLess x.toList y.toList || x == y))
 | .gtr => some (.B (!(Op.bytesLess x.toList y.toList || x == y)))
 | .geq => some (.B (!(Op.bytesLess x.toList y.toList)))
 |_ => none
def eqK : List Kd → List AV → List AV → Option Bool
 |[], [], [] => some true
 | .b :: ks, .dv (.val (.bool p)) :: l, .dv (.val (.bool q)) :: l' => match eqK ks l l' with | some r => some (p == q && r) | none => none
 | .i k :: ks, .dv (.val (.int k1 p)) :: l, .dv (.val (.int k2 q)) :: l' => if k = k1 then if k = k2 then match eqK ks l l' with | some r => some (p == q && r) | none => none else none else none
 | .s :: ks, .dv (.val (.string p)) :: l, .dv (.val (.string q)) :: l' => match eqK ks l l' with | some r => some (p == q && r) | none => none
 |_, _, _ => none
def plainFields (g : TypeId → Option (List Kd)) : Nat → List Field → Option (List Kd)
 |_, [] => some []
 |off, f :: fs =>
  if f.name != "_" && Nat.beq f.offset off then
   match g f.type with
   |some ks => match size? P f.type, plainFields g (off + ks.length) fs with
    |some n, some l => if Nat.beq n ks.length then some (ks ++ l) else none
    |_, _ => none
   |none => none
  else none
def plainKds : Nat → TypeId → Option (List Kd)
 |0, _ => none
 |n + 1, t =>
  match P.underlying t with
  |some .bool => some [.b]
  |some (.int k) => some [.i k]
  |some .string => some [.s]
  |some (.struct fs) => if P.stoodInHeld t then none else plainFields P (plainKds n) 0 fs.toList
  |_ => none
termination_by structural n => n

def nilOp (op : BinOp) (n : Bool) : Option AV :=
 match op with
 | .eql => some (.B n)
 | .neq => some (.B (!n))
 |_ => none
def binE (op : BinOp) (t : TypeId) (a b : AV) : Option AV :=
 match a, b with
 | .dv (.val (.int k x)), .dv (.val (.int j y)) => if k = j then arith op k x y else none
 | .dv (.val (.string x)), .dv (.val (.string y)) => strOp op x y
 | .dv (.val (.bool x)), .dv (.val (.bool y)) =>
  match P.underlying t with
  |some .bool => nilOp op (x == y)
  |_ => none
 | .agg x, .agg y =>
  match P.underlying t, plainKds P 9 t with
  |some (.struct _), some ks => if P.eqGuardType P.depth t then none else match eqK ks x y with | some r => nilOp op r | none => none
  |_, _ => none
 | .sl n _ _ _, .sl true _ [] .ex => match P.underlying t with | some (.slice _) => nilOp op n | _ => none
 | .ms .., .sl true _ [] .ex => match P.underlying t with | some (.slice _) => nilOp op false | _ => none
 | .pl _ off, .dv (.val (.pointer none)) => match P.underlying t, Nat.beq off mapOff with | some (.pointer _), false => nilOp op false | _, _ => none
 | .pv _ _ _, .dv (.val (.pointer none)) => match P.underlying t with | some (.pointer _) => nilOp op false | _ => none
 | .fn _ _, .dv (.val .nilFunc) => match P.underlying t with | some (.func _ _ _) => nilOp op false | _ => none
 | .ifc _ _, .dv (.val .nilIface) => match P.underlying t with | some (.interface _) => nilOp op false | _ => none
 | .dv (.val .nilIface), .dv (.val .nilIface) => match P.underlying t with | some (.interface ms) => (match ms.toList with | [] => nilOp op true | _ => none) | _ => none
 | .dv (.val .nilFunc), .dv (.val .nilFunc) => match P.underlying t with | some (.func _ _ _) => nilOp op true | _ => none
 | .dv (.val (.pointer none)), .dv (.val (.pointer none)) => match P.underlying t with | some (.pointer _) => nilOp op true | _ => none
 | .pl k off, .pl k' off' => match P.underlying t with
  |some (.pointer el) => match size? P el, Nat.beq k k' && Nat.beq off off' && !Nat.beq off mapOff with
   |some _, true => nilOp op true
   |_, _ => none
  |_ => none
 |_, _ => none
end

def bytesOf (rows : Rows) : ByteArray := ⟨(rows.map fun r => UInt8.ofNat (Row.I r 0).toNat).toArray⟩
def byteRows (s : ByteArray) : Rows := s.data.toList.map fun b => [.val (.int .u8 b.toNat)]
def bt (s : ByteArray) (i : Int) : Int := ((s.data.toList.getD i.toNat 0).toNat : Int)

mutual
def AV.bare : AV → AV
 | .sl n ks rows _ => .sl n ks rows .no
 | .agg cs => .agg (AV.bareL cs)
 | .tup cs => .tup (AV.bareL cs)
 | .fn f cs => .fn f (AV.bareL cs)
 | .ifc t v => .ifc t v.bare
 | .dv d => .dv d
 | .pl k off => .pl k off
 | .pv ks row off => .pv ks row off
 | .ms k kd off n c => .ms k kd off n c
 | .pa k kd i j => .pa k kd i j
 | .arr kd rows => .arr kd rows
 | .junk => .junk
def AV.bareL : List AV → List AV
 |[] => []
 |a :: l => a.bare :: AV.bareL l
end

def Right.toks : Right → List Nat
 | .tok k => [k]
 |_ => []
def AV.topTok : AV → List Nat
 | .sl _ _ _ r => r.toks
 |_ => []
def nodup : List Nat → Bool
 |[] => true
 |k :: l => !mem k l && nodup l
mutual
def AV.slotsA : AV → List Nat
 | .pl k _ => [k]
 | .ms k _ _ _ _ => [k]
 | .pa k _ _ _ => [k]
 | .agg cs => AV.slots cs
 | .fn _ cs => AV.slots cs
 | .ifc _ v => AV.slotsA v
 |_ => []
def AV.slots : List AV → List Nat
 |[] => []
 |a :: l => AV.slotsA a ++ AV.slots l
end
def dedup : List Nat → List Nat
 |[] => []
 |k :: l => let r := dedup l; if mem k r then r else k :: r
def mapsL : List AV → List Nat
 |[] => []
 | .pl k off :: l => match Nat.beq off mapOff with | true => k :: mapsL l | false => mapsL l
 |_ :: l => mapsL l
def deepL (m : Mem) (ks : List Nat) : List Nat → List Nat
 |[] => []
 |k :: l => (match lookup m k with | some cs => (mapsL cs).filter (fun j => !mem j ks) | none => []) ++ deepL m ks l
def reach (m : Mem) (ks : List Nat) : List Nat := dedup (ks ++ deepL m ks ks)
def index (k : Nat) : List Nat → Nat
 |[] => 0
 |j :: l => if Nat.beq j k then 0 else index k l + 1
def Right.pass : Right → Right
 | .ex => .ex
 |_ => .no
mutual
def AV.pass (ks : List Nat) : AV → AV
 | .dv d => .dv d
 | .sl n kd rows r => .sl n kd rows r.pass
 | .agg cs => .agg (AV.passL ks cs)
 | .pl k off => if mem k ks then .pl (1000 + index k ks) off else .junk
 | .pv kd row off => .pv kd row off
 | .fn f caps => .fn f (AV.passL ks caps)
 | .ifc t v => .ifc t (AV.pass ks v)
 | .ms k kd off n c => if mem k ks then .ms (1000 + index k ks) kd off n c else .junk
 | .pa k kd i j => if mem k ks then .pa (1000 + index k ks) kd i j else .junk
 | .arr kd rows => .arr kd rows
 |_ => .junk
def AV.passL (ks : List Nat) : List AV → List AV
 |[] => []
 |a :: l => AV.pass ks a :: AV.passL ks l
end
def cellsOf (m : Mem) (ks : List Nat) : List Nat → Option (List (List AV))
 |[] => some []
 |k :: l => match lookup m k with
  |some cs => match cellsOf m ks l with
   |some r => some (AV.passL ks cs :: r)
   |none => none
  |none => none
mutual
def AV.back (ks : List Nat) (d : Nat) : AV → AV
 | .dv v => .dv v
 | .sl n kd rows .no => .sl n kd rows .no
 | .sl n kd rows .ex => .sl n kd rows .ex
 | .sl n kd rows .old => .sl n kd rows .no
 | .sl n kd rows (.tok i) => .sl n kd rows (if Nat.blt i 8 then .tok (1000 + 8 * d + i) else .no)
 | .agg cs => .agg (AV.backL ks d cs)
 | .tup cs => .tup (AV.backL ks d cs)
 | .pl k off => if Nat.ble 1000 k then match ks[k - 1000]? with | some j => .pl j off | none => .junk else .junk
 | .pv kd row off => .pv kd row (pvOff off)
 | .fn f caps => .fn f (AV.backL ks d caps)
 | .ifc t v => .ifc t (AV.back ks d v)
 | .ms k kd off n c => if Nat.ble 1000 k then match ks[k - 1000]? with | some j => .ms j kd off n c | none => .junk else .junk
 | .pa k kd i q => if Nat.ble 1000 k then match ks[k - 1000]? with | some j => .pa j kd i q | none => .junk else .junk
 | .arr kd rows => .arr kd rows
 | .junk => .junk
def AV.backL (ks : List Nat) (d : Nat) : List AV → List AV
 |[] => []
 |a :: l => AV.back ks d a :: AV.backL ks d l
end
mutual
def AV.hasTok : AV → Bool
 | .sl _ _ _ (.tok _) => true
 | .agg cs => AV.hasTokL cs
 | .tup cs => AV.hasTokL cs
 | .fn _ cs => AV.hasTokL cs
 | .ifc _ v => AV.hasTok v
 |_ => false
def AV.hasTokL : List AV → Bool
 |[] => false
 |a :: l => a.hasTok || AV.hasTokL l
end
def zipW (ks : List Nat) (d : Nat) : List Nat → List (List AV) → List (Nat × List AV)
 |k :: l, cs :: e => (k, AV.backL ks d cs) :: zipW ks d l e
 |_, _ => []
def toks8 (d : Nat) : List Nat := [1000+8*d, 1001+8*d, 1002+8*d, 1003+8*d, 1004+8*d, 1005+8*d, 1006+8*d, 1007+8*d]
def callEff (ks : List Nat) (d : Option Tmp) (o : Out) : Eff :=
 match o.ext, o.res.hasTok with
 |[], false => .pure (AV.back ks (d.getD 0) o.res)
 |_, _ => .full (AV.back ks (d.getD 0) o.res) [] (toks8 (d.getD 0)) (zipW ks (d.getD 0) ks o.ext)

def newSlots (D : Nat) : Nat → List Nat
 |0 => []
 |n + 1 => newSlots D n ++ [D + 300 * n]
def goneOf : List Nat → List (List AV) → List Nat
 |k :: l, [] :: e => k :: goneOf l e
 |_ :: l, (_ :: _) :: e => goneOf l e
 |_, _ => []
def allLt (n : Nat) : List Nat → Bool
 |[] => true
 |k :: l => Nat.blt k n && allLt n l
def newE {R : Type} (ks : List Nat) (d : Option Tmp) (o : Out) (k : Eff → Option R) : Option R :=
 match d, o.pan with
 |some D, false =>
  match Nat.blt D 300 && Nat.ble (o.ext.length - ks.length) 3 && nodup (newSlots D (o.ext.length - ks.length) ++ ks) && allLt 1000 (goneOf ks o.ext) with
  |true => k (.full (AV.back (ks ++ newSlots D (o.ext.length - ks.length)) D o.res) (newSlots D (o.ext.length - ks.length)) (toks8 D) (zipW (ks ++ newSlots D (o.ext.length - ks.length)) D (ks ++ newSlots D (o.ext.length - ks.length)) o.ext))
  |false => none
 |_, _ => none

def topToks : List AV → List Nat
 |[] => []
 |a :: l => a.topTok ++ topToks l
def AV.hasTokLL : List (List AV) → Bool
 |[] => false
 |a :: l => (match topToks a with | [] => false | _ :: _ => true) || AV.hasTokLL l
def Right.lend (i : Nat) (rows : Rows) : Right → Right
 | .tok _ => .tok (500000 + i)
 | .ex => match rows.isEmpty with | true => .tok (500000 + i) | false => .no
 |_ => .no
def AV.lend (ks : List Nat) (i : Nat) : AV → AV
 | .sl n kd rows r => .sl n kd rows (r.lend i rows)
 |a => (AV.pass ks a).bare
def AV.lendL (ks : List Nat) : Nat → List AV → List AV
 |_, [] => []
 |i, a :: l => AV.lend ks i a :: AV.lendL ks (i + 1) l
def catM (m : Mem) : List Nat → List AV
 |[] => []
 |k :: l => match lookup m k with
  |some cs => match plain cs with
   |true => cs ++ catM m l
   |false => .junk :: catM m l
  |none => catM m l
def lendOf (m : Mem) (ks : List Nat) : Nat → List Nat → List (List AV)
 |_, [] => []
 |i, k :: l => match lookup m k with
  |some cs => match plain cs with
   |true => AV.lendL ks i cs :: lendOf m ks (i + cs.length) l
   |false => AV.passL ks cs :: lendOf m ks (i + 1) l
  |none => [] :: lendOf m ks i l
def lendEff (ks : List Nat) (d : Option Tmp) (lt : List Nat) (o : Out) : Eff :=
 .full (AV.back ks (d.getD 0) o.res) [] (lt ++ toks8 (d.getD 0)) (zipW ks (d.getD 0) ks o.ext)

def DV.kd : DV → Kd
 | .val (.bool _) => .b
 | .val (.int k _) => .i k
 | .val (.string _) => .s
 | .sl _ ks _ => .sl ks
 | .val _ => .o
def Row.kds : Row → List Kd
 |[] => []
 |d :: r => d.kd :: Row.kds r
mutual
def AV.look (m : Mem) : AV → AV
 | .dv d => .dv d
 | .sl n kd rows _ => .sl n kd rows .no
 | .agg cs => .agg (AV.lookL m cs)
 | .fn f cs => .fn f (AV.lookL m cs)
 | .ifc t v => .ifc t (AV.look m v)
 | .pv kd row off => .pv kd row (pvOff off)
 | .pl k off => match lookup m k with
  |some cs => match AV.flats cs with
   |some row => match Nat.blt off 1000000000 with
    |true => .pv (Row.kds row) row off
    |false => .junk
   |none => .junk
  |none => .junk
 |_ => .junk
def AV.lookL (m : Mem) : List AV → List AV
 |[] => []
 |a :: l => AV.look m a :: AV.lookL m l
end
def lookOut {R : Type} (k : Eff → Option R) (out : Out) : Option R :=
 match out.ext, out.pan, out.res with
 |[], false, .dv (.val v) => k (.pure (.dv (.val v)))
 |_, _, _ => none

section
variable (P : Program) (Φ : Orc)
def evs (tm : List AV) : List TypeId → List Operand → Option (List AV)
 |_, [] => some []
 |[], x :: xs => match evT P tm 0 x with
  |some v => match evs tm [] xs with | some l => some (v :: l) | none => none
  |none => none
 |t :: ts, x :: xs => match evT P tm t x with
  |some v => match evs tm ts xs with | some l => some (v :: l) | none => none
  |none => none

def callE {R : Type} (m : Mem) (d : Option Tmp) (f : FuncId) (args : List AV) (k : Eff → Option R) (kp : Eff → Option R) : Option R :=
 match mem (5000000 + d.getD 0) Φ.hs with
 |true => Φ.call R f (AV.lookL m args) [] (lookOut k)
 |false =>
 let ks := reach m (AV.slots args)
 match cellsOf m ks ks with
 |some ext =>
  match mem (1000000 + f) Φ.hs with
  |false => Φ.call R f (AV.bareL (AV.passL ks args)) ext fun out =>
   match Nat.ble out.ext.length ks.length with
   |true => match out.pan with
    |false => k (callEff ks d out)
    |true => kp (callEff ks d out)
   |false => newE ks d out k
  |true => match nodup (topToks (args ++ catM m ks)) with
   |true => Φ.call R f (AV.lendL ks 0 args) (lendOf m ks args.length ks) fun out =>
    match Nat.ble out.ext.length ks.length with
    |true => match out.pan with
     |false => k (lendEff ks d (topToks (args ++ catM m ks)) out)
     |true => kp (lendEff ks d (topToks (args ++ catM m ks)) out)
    |false => none
   |false => none
 |none => none

def appTok (d : Tmp) (r : Right) (rows rows2 : Rows) : Right :=
 match r with
 | .no => .no
 | .ex => match rows.isEmpty || !rows2.isEmpty with | true => .tok d | false => .ex
 | .tok _ => .tok d
 | .old => .no
def appTokK {R : Type} (d : Tmp) (r : Right) (rows rows2 : Rows) (k : Right → Option R) : Option R :=
 match r with
 | .no => k .no
 | .ex => match rows.isEmpty || !rows2.isEmpty with | true => k (.tok d) | false => k .ex
 | .tok _ => k (.tok d)
 | .old => k .no
theorem appTokK_eq {R : Type} (d : Tmp) (r : Right) (rows rows2 : Rows) (k : Right → Option R) : appTokK d r rows rows2 k = k (appTok d r rows rows2) := by
 cases r with
 |ex => simp only [appTokK, appTok]; cases (rows.isEmpty || !rows2.isEmpty) <;> rfl
 |_ => rfl
def appendRight (d : Tmp) : Right → Option (List Nat)
 | .no => none
 | .ex => some [d]
 | .tok j => some [d, j]
 | .old => none

def elemOk (t : TypeId) (ks : List Kd) : Bool :=
 match P.underlying t with
 |some (.slice e) => match kdsOf P 9 e, size? P e with | some ke, some n => Kd.sameL ks ke && Nat.beq n ke.length | _, _ => false
 |_ => false

def clearE {R : Type} (m : Mem) (ts : List TypeId) (j : Nat) (ks : List Kd) (off n : Nat) (k : Eff → Option R) : Option R :=
 match ts with
 |[t] => match P.underlying t with
  |some (.slice e) => match zeroOf P e, lookupA m j with
   |some z, some (ks2, rows) => match AV.flats z with
    |some zr => match Kd.sameL ks ks2 && Row.ofKds ks zr with
     |true => if off + n ≤ rows.length then k (.full (.tup []) [] [] [(j, [.arr ks (rows.take off ++ List.replicate n zr ++ rows.drop (off + n))])]) else none
     |false => none
    |none => none
   |_, _ => none
  |_ => none
 |_ => none
def copyE {R : Type} (m : Mem) (ts : List TypeId) (j : Nat) (ks : List Kd) (off n : Nat) (ks2 : List Kd) (rows2 : Rows) (k : Eff → Option R) : Option R :=
 match ts with
 |[t, _] => match elemOk P t ks && Kd.sameL ks ks2, lookupA m j with
  |true, some (ks3, rows) => match Kd.sameL ks ks3 with
   |true => if off + n ≤ rows.length then k (.full (.I .i64 (min rows2.length n : Nat)) [] [] [(j, [.arr ks (rows.take off ++ rows2.take (min rows2.length n) ++ rows.drop (off + min rows2.length n))])]) else none
   |false => none
  |_, _ => none
 |_ => none
def builtinE {R : Type} (m : Mem) (d : Option Tmp) (b : Builtin) (ts : List TypeId) (args : List AV) (k : Eff → Option R) : Option R :=
 match b, args with
 | .len, [.dv (.val (.string s))] => match ts with
  |t :: _ => match P.underlying t with
   |some .string => k (.pure (.I .i64 s.size))
   |_ => none
  |[] => none
 | .len, [.sl _ _ rows _] => match ts with
  |t :: _ => match P.underlying t with
   |some (.slice _) => k (.pure (.I .i64 rows.length))
   |_ => none
  |[] => none
 | .len, [.ms _ _ _ n _] => match ts with
  |t :: _ => match P.underlying t with
   |some (.slice _) => k (.pure (.I .i64 n))
   |_ => none
  |[] => none
 | .min, [.dv (.val (.int j x)), .dv (.val (.int l y))] => if j = l then k (.pure (.I j (if y < x then y else x))) else none
 | .max, [.dv (.val (.int j x)), .dv (.val (.int l y))] => if j = l then k (.pure (.I j (if y > x then y else x))) else none
 | .append, [.sl n ks rows r, .sl _ ks2 rows2 _] =>
  match d, ts with
  |some d, [t, t2] =>
   match P.underlying t with
   |some (.slice e) => match P.info? e, kdsOf P 9 e, appendRight d r with
    |some i, some ke, some strike =>
     match i.zero with
     |some z =>
      if Nat.beq t t2 && Kd.sameL ks ke && Kd.sameL ks2 ke && Nat.beq i.size ke.length && Nat.beq z.cells.size i.size && Nat.blt 0 i.bytes && u8El P e ks then
       if (rows.length + rows2.length) * i.bytes ≤ 140737488355328 then
        appTokK d r rows rows2 fun r' => k (.full (.sl (n && rows2.isEmpty) ks (rows ++ rows2) r') [] strike [])
       else none
      else none
     |none => none
    |_, _, _ => none
   |_ => none
  |_, _ => none
 | .append, [.ms j ks off n _, .sl _ ks2 rows2 _] =>
  match d, ts with
  |some d, [t, t2] =>
   match P.underlying t with
   |some (.slice e) => match P.info? e, kdsOf P 9 e, lookupA m j with
    |some i, some ke, some (ks3, []) =>
     match i.zero with
     |some z =>
      if Nat.beq t t2 && Kd.sameL ks ke && Kd.sameL ks2 ke && Kd.sameL ks3 ke && Nat.beq i.size ke.length && Nat.beq z.cells.size i.size && Nat.blt 0 i.bytes && Nat.beq off 0 && Nat.beq n 0 && Nat.blt j 1000 && Nat.blt d 1000 then
       if rows2.length * i.bytes ≤ 140737488355328 then
        k (.full (.ms d ks 0 rows2.length rows2.length) [j, d] [] [(d, [.arr ks rows2])])
       else none
      else none
     |none => none
    |_, _, _ => none
   |_ => none
  |_, _ => none
 | .append, [.sl n ks rows r, .dv (.val (.string s))] =>
  match d, ts with
  |some d, [t, t2] =>
   match P.underlying t, P.underlying t2 with
   |some (.slice e), some .string => match P.info? e, kdsOf P 9 e, P.underlying e, appendRight d r with
    |some i, some ke, some (.int .u8), some strike =>
     match i.zero with
     |some z =>
      if Kd.sameL ks ke && Kd.sameL ke [.i .u8] && Nat.beq i.size 1 && Nat.beq z.cells.size i.size && Nat.blt 0 i.bytes && u8El P e ks then
       if (rows.length + s.size) * i.bytes ≤ 140737488355328 then
        k (.full (.sl (n && s.size == 0) ks (rows ++ byteRows s) (appTok d r rows (byteRows s))) [] strike [])
       else none
      else none
     |none => none
    |_, _, _, _ => none
   |_, _ => none
  |_, _ => none
 | .clear, [.ms j ks off n _] => clearE P m ts j ks off n k
 | .copy, [.ms j ks off n _, .sl _ ks2 rows2 _] => copyE P m ts j ks off n ks2 rows2 k
 |_, _ => none

def bound (x : Option AV) (dflt : Int) : Option Int :=
 match x with
 |none => some dflt
 |some (.dv (.val (.int _ n))) => some n
 |_ => none
def evO (tm : List AV) : Option Operand → Option (Option AV)
 |none => some none
 |some x => match evT P tm 0 x with | some v => some (some v) | none => none

def sliceE {R : Type} (x : AV) (lo hi mx : Option AV) (k : Eff → Option R) : Option R :=
 match x with
 | .dv (.val (.string s)) =>
  match mx, bound lo 0, bound hi s.size with
  |none, some l, some h => if 0 ≤ l then if l ≤ h then if h ≤ (s.size : Int) then k (.pure (.S (s.extract l.toNat h.toNat))) else none else none else none
  |_, _, _ => none
 | .sl n ks rows r =>
  match mx with
  |none =>
   match bound lo 0, bound hi rows.length with
   |some l, some h => if 0 ≤ l then if l ≤ h then if h ≤ (rows.length : Int) then
     k (.pure (.sl n ks ((rows.take h.toNat).drop l.toNat) (match hi, r with | none, .ex => .ex | _, _ => .no))) else none else none else none
   |_, _ => none
  |some (.dv (.val (.int _ q))) =>
   match bound lo 0, hi with
   |some l, some (.dv (.val (.int _ h))) => if 0 ≤ l then if l ≤ h then if h ≤ q then if q ≤ (rows.length : Int) then
     k (.pure (.sl n ks ((rows.take h.toNat).drop l.toNat) (if h = q then .ex else .no))) else none else none else none else none
   |_, _ => none
  |_ => none
 | .ms j ks off n c =>
  match mx, bound lo 0, bound hi n with
  |none, some l, some h => if 0 ≤ l then if l ≤ h then if h ≤ (c : Int) then k (.pure (.ms j ks (off + l.toNat) (h.toNat - l.toNat) (c - l.toNat))) else none else none else none
  |_, _, _ => none
 |_ => none

def Right.olden : Right → Right
 | .no => .old
 |r => r
mutual
def AV.olden : AV → AV
 | .sl n kd rows r => .sl n kd rows r.olden
 | .agg cs => .agg (AV.oldenL cs)
 | .tup cs => .tup (AV.oldenL cs)
 | .fn f cs => .fn f (AV.oldenL cs)
 | .ifc t v => .ifc t v.olden
 | .dv d => .dv d
 | .pl k off => .pl k off
 | .pv ks row off => .pv ks row off
 | .ms k kd off n c => .ms k kd off n c
 | .pa k kd i j => .pa k kd i j
 | .arr kd rows => .arr kd rows
 | .junk => .junk
def AV.oldenL : List AV → List AV
 |[] => []
 |a :: l => a.olden :: AV.oldenL l
end

def oldExt : List (List AV) → List (List AV)
 |[] => []
 |cs :: l => AV.oldenL cs :: oldExt l
def oldA (off : Nat) (a : AV) : AV := match isOld off with | true => a.olden | false => a
def oldL (off : Nat) (l : List AV) : List AV := match isOld off with | true => AV.oldenL l | false => l
def Right.at : Right → Nat
 | .old => 3000000000
 |_ => 0

def loadE {R : Type} (m : Mem) (t : TypeId) (a : AV) (k : Eff → Option R) : Option R :=
 match agg? P t, size? P t with
 |some true, some n =>
  match a with
  | .pl j off => match lookupC m j with
   |some cs => if Nat.ble (off + n) cs.length && !Nat.beq off mapOff then k (.pure (.agg ((cs.drop off).take n))) else none
   |none => none
  | .pv ks row off => if Nat.ble (pvOff off + n) ks.length then k (.pure (.agg (oldL off (Row.cells row ((ks.drop (pvOff off)).take n) (pvOff off))))) else none
  | .pa j ks i q => match lookupA m j with
   |some (ks2, rows) => if Kd.sameL ks ks2 && Nat.ble (q + n) ks.length then if i < rows.length then k (.pure (.agg (Row.cells (rows.getD i []) ((ks.drop q).take n) q))) else none else none
   |none => none
  |_ => none
 |some false, some _ =>
  match a with
  | .pl j off => match lookupC m j with
   |some cs => match cs[off]?, Nat.beq off mapOff with
    |some v, false => k (.pure v)
    |_, _ => none
   |none => none
  | .pv ks row off => match ks[pvOff off]? with
   |some kd => k (.pure (oldA off (Row.cell kd row (pvOff off))))
   |none => none
  | .pa j ks i q => match lookupA m j, ks[q]? with
   |some (ks2, rows), some kd => if Kd.sameL ks ks2 then if i < rows.length then k (.pure (Row.cell kd (rows.getD i []) q)) else none else none
   |_, _ => none
  |_ => none
 |_, _ => none

def spliceD (r : Row) (q : Nat) (new : Row) : Row := r.take q ++ new ++ r.drop (q + new.length)
def storeE {R : Type} (m : Mem) (t : TypeId) (a v : AV) (k : Eff → Option R) : Option R :=
 match size? P t, a, v.cells with
 |some n, .pl j off, some new =>
  match lookupC m j with
  |some cs => if Nat.beq new.length n && Nat.ble (off + n) cs.length && AV.areCells new && virLe (splice cs off new) cs && !Nat.beq off mapOff then k (.full .junk [] [] [(j, splice cs off new)]) else none
  |none => none
 |some n, .pa j ks i q, some new =>
  match lookupA m j, AV.flats new with
  |some (ks2, rows), some fl =>
   if Kd.sameL ks ks2 && Nat.beq new.length n && Nat.ble (q + n) ks.length && Row.ofKds ((ks.drop q).take n) fl then
    if i < rows.length then k (.full .junk [] [] [(j, [.arr ks (rows.set i (spliceD (rows.getD i []) q fl))])]) else none
   else none
  |_, _ => none
 |_, _, _ => none

def keyOk (t : TypeId) (ks : List Kd) : Bool :=
 match P.underlying t, ks with
 |some .bool, .b :: _ => true
 |some (.int k), .i j :: _ => decide (k = j)
 |some .string, .s :: _ => true
 |_, _ => false
def flatKds : List Kd → Bool
 |[] => true
 | .sl _ :: _ => false
 |_ :: l => flatKds l
def zAgg (t : TypeId) : Option Bool :=
 match P.info? t with
 |some i => match i.zero with
  |some (.agg _) => some true
  |some _ => some false
  |none => none
 |none => none
def AV.isAgg : AV → Bool
 | .agg _ => true
 |_ => false
def newMapE {R : Type} (d : Option Tmp) (t : TypeId) (k : Eff → Option R) : Option R :=
 match d, P.underlying t with
 |some d, some (.map kt et) => match kdsOf P 9 kt, kdsOf P 9 et, zAgg P et with
  |some ks, some vs, some ag => if flatKds (ks ++ vs) && Nat.blt d 1000 then k (.full (.pl d mapOff) [d] [] [(d, [mpTag ag, .arr (ks ++ vs) []])]) else none
  |_, _, _ => none
 |_, _ => none
def entryAV (ag : Bool) (ks : List Kd) (r : Row) : Option AV :=
 match ag, ks with
 |true, _ :: vs => some (.agg (Row.cells r vs 1))
 |false, [_, kd] => some (Row.cell kd r 1)
 |_, _ => none
def lookE {R : Type} (m : Mem) (t : TypeId) (a x : AV) (ok : Bool) (k : Eff → Option R) : Option R :=
 match P.underlying t, a, x with
 |some (.map kt et), .pl j off, .dv key => match lookupM m j, zeroOf P et, zAgg P et, Nat.beq off mapOff with
  |some (ag, ks, rows), some z, some ag', true => match AV.flats z with
   |some zr => if keyOk P kt ks && (ag == ag') && Row.ofKds ks (key :: zr) then match entryAV ag ks (mget rows key (key :: zr)) with
     |some v => k (.pure (match ok with | true => .tup [v, .B (mhas rows key)] | false => v))
     |none => none
    else none
   |none => none
  |_, _, _, _ => none
 |_, _, _ => none
def putE {R : Type} (m : Mem) (t : TypeId) (a x v : AV) (k : Eff → Option R) : Option R :=
 match P.underlying t, a, x, v.cells with
 |some (.map kt _), .pl j off, .dv key, some new => match lookupM m j, AV.flats new, Nat.beq off mapOff with
  |some (ag, ks, rows), some fl, true =>
   if keyOk P kt ks && (ag == v.isAgg) && Row.ofKds ks (key :: fl) then k (.full .junk [] [] [(j, [mpTag ag, .arr ks (mput rows key (key :: fl))])]) else none
  |_, _, _ => none
 |_, _, _, _ => none

def pickIx {R : Type} (k : AV → Option R) (i : Int) : Int → List AV → Option R
 |_, [] => none
 |j, c :: cs => if i = j then k c else pickIx k i (j + 1) cs
def opE {R : Type} (tm : List AV) (m : Mem) (o : Oper) (k : Eff → Option R) (kp : Eff → Option R) : Option R :=
 match o.op with
 | .move x => match evT P tm o.type x with | some v => k (.pure v) | none => none
 | .assign x => match evT P tm o.type x with | some v => k (.pure v) | none => none
 | .pick c a b =>
  match evT P tm 0 c with
  |some (.dv (.val (.bool true))) => match evT P tm o.type a with | some v => k (.pure v) | none => none
  |some (.dv (.val (.bool false))) => match evT P tm o.type b with | some v => k (.pure v) | none => none
  |_ => none
 | .alloc e =>
  match o.dst, zeroOf P e with
  |some d, some cs => if Nat.blt d 1000 && virOk P e cs then k (.full (.pl d 0) [d] [] [(d, cs)]) else none
  |_, _ => none
 | .box e x =>
  match o.dst, evT P tm e x with
  |some d, some v => match v.cells with
   |some cs => if Nat.blt d 1000 && virOk P e (AV.scrubL [d] [] cs) then k (.full (.pl d 0) [d] [] [(d, AV.scrubL [d] [] cs)]) else none
   |none => none
  |_, _ => none
 | .build t ps =>
  match zeroOf P t, sized P t with
  |some cs, true => match parts P t tm ps.toList cs with
   |some cs => k (.pure (.agg cs))
   |none => none
  |_, _ => none
 | .buildSlice t n ps =>
  match P.underlying t with
  |some (.slice e) => match kdsOf P 9 e, zeroOf P e, size? P e with
   |some ks, some z, some se => match AV.flats z with
    |some zr => match rowsOf P e ks tm ps.toList (List.replicate n zr) with
     |some rows => if Nat.beq se ks.length && Row.ofKds ks zr && Nat.ble (n * se) 16777216 then
       match o.dst with
       |some d => match mem d Φ.hs && Nat.blt d 1000 && Nat.ble n 16777216 with
        |true => k (.full (.ms d ks 0 n n) [d] [] [(d, [.arr ks rows])])
        |false => match mem (2000000 + d) Φ.hs && !u8k ks && Nat.ble n 16777216 with
         |true => k (.full (.sl false ks rows (.tok d)) [] [d] [])
         |false => k (.pure (.sl false ks rows .ex))
       |none => k (.pure (.sl false ks rows .ex))
      else none
     |none => none
    |none => none
   |_, _, _ => none
  |_ => none
 | .load t a => match evT P tm 0 a with | some v => loadE P m t v k | none => none
 | .store t a x => match evT P tm 0 a, evT P tm t x with | some v, some x => storeE P m t v x k | _, _ => none
 | .makeMap t none => newMapE P o.dst t k
 | .lookup t a x ok => match P.underlying t with
  |some (.map kt _) => match evT P tm t a, evT P tm kt x with | some a, some x => lookE P m t a x ok k | _, _ => none
  |_ => none
 | .mapUpdate t a x v => match P.underlying t with
  |some (.map kt et) => match evT P tm t a, evT P tm kt x, evT P tm et v with | some a, some x, some v => putE P m t a x v k | _, _, _ => none
  |_ => none
 | .nilCheck x =>
  match evT P tm 0 x with
  |some (.pl j off) => match Nat.beq off mapOff with | false => k (.pure (.pl j off)) | true => none
  |some (.pv ks row off) => k (.pure (.pv ks row off))
  |some (.pa j ks i q) => k (.pure (.pa j ks i q))
  |some (.fn f caps) => k (.pure (.fn f caps))
  |_ => none
 | .binOp op t x y u =>
  match op with
  | .quo => match evT P tm t x, evT P tm u y with
   |some (.dv (.val (.int j x))), some (.dv (.val (.int l y))) => if j = l then if y = 0 then none else k (.pure (.I j (j.wrap (x.tdiv y)))) else none
   |_, _ => none
  | .rem => match evT P tm t x, evT P tm u y with
   |some (.dv (.val (.int j x))), some (.dv (.val (.int l y))) => if j = l then if y = 0 then none else k (.pure (.I j (x.tmod y))) else none
   |_, _ => none
  | .shl => match evT P tm t x, evT P tm u y with
   |some (.dv (.val (.int j x))), some (.dv (.val (.int _ y))) => if y < 0 then none else k (.pure (.I j (j.wrap (x * 2 ^ (min y.toNat j.bits)))))
   |_, _ => none
  | .shr => match evT P tm t x, evT P tm u y with
   |some (.dv (.val (.int j x))), some (.dv (.val (.int _ y))) => if y < 0 then none else k (.pure (.I j (x.fdiv (2 ^ (min y.toNat j.bits)))))
   |_, _ => none
  | .add => match evT P tm t x, evT P tm u y with
   |some (.dv (.val (.string x))), some (.dv (.val (.string y))) => if x.size + y.size < 4611686018427387904 then k (.pure (.S (x ++ y))) else none
   |some a, some b => match binE P .add t a b with | some v => k (.pure v) | none => none
   |_, _ => none
  |op => match evT P tm t x, evT P tm u y with
   |some a, some b => match binE P op t a b with | some v => k (.pure v) | none => none
   |_, _ => none
 | .unOp op t x =>
  match op, evT P tm t x with
  | .neg, some (.dv (.val (.int j n))) => k (.pure (.I j (j.wrap (0 - n))))
  | .not, some (.dv (.val (.bool b))) => k (.pure (.B (!b)))
  |_, _ => none
 | .convert src dst x =>
  match P.underlying src, P.underlying dst, evT P tm src x with
  |some (.int _), some (.int j), some (.dv (.val (.int _ n))) => k (.pure (.I j (j.wrap n)))
  |some .string, some .string, some (.dv (.val (.string s))) => k (.pure (.S s))
  |some (.slice e), some .string, some (.sl _ [.i .u8] rows _) =>
   match P.underlying e with
   |some (.int .u8) => k (.pure (.S (bytesOf rows)))
   |_ => none
  |_, _, _ => none
 | .makeInterface t x =>
  match P.underlying t, evT P tm t x with
  |some (.interface _), _ => none
  |some _, some v => k (.pure (.ifc t v))
  |_, _ => none
 | .makeFunc (.func f) first caps =>
  match first.toList, evs P tm [] caps.toList with
  |[], some l => k (.pure (.fn f l))
  |_, _ => none
 | .slice t x lo hi mx =>
  match evT P tm t x, evO P tm lo, evO P tm hi, evO P tm mx with
  |some (.dv (.val (.string s))), some l, some h, some q => match P.underlying t with | some .string => sliceE (.S s) l h q k | _ => none
  |some (.sl n ks rows r), some l, some h, some q => if elemOk P t ks then sliceE (.sl n ks rows r) l h q k else none
  |some (.ms j ks off n c), some l, some h, some q => if elemOk P t ks then sliceE (.ms j ks off n c) l h q k else none
  |_, _, _, _ => none
 | .fieldAddr s x f =>
  match field? P s f, evT P tm 0 x with
  |some (off, ft), some (.pl j o) => match size? P ft with | some n => if Nat.blt 0 n && !Nat.beq o mapOff && !Nat.beq (o + off) mapOff then k (.pure (.pl j (o + off))) else none | none => none
  |some (off, ft), some (.pv ks row o) => match size? P ft with | some n => if Nat.blt 0 n && Nat.blt (pvOff o + off) 3000000000 then k (.pure (.pv ks row (o + off))) else none | none => none
  |some (off, ft), some (.pa j ks i q) => match size? P ft with | some n => if Nat.blt 0 n then k (.pure (.pa j ks i (q + off))) else none | none => none
  |_, _ => none
 | .field s x f =>
  match field? P s f, evT P tm s x with
  |some (off, ft), some (.agg cs) =>
   match agg? P ft, size? P ft with
   |some true, some n => if Nat.ble (off + n) cs.length then k (.pure (.agg ((cs.drop off).take n))) else none
   |some false, some _ => match cs[off]? with | some v => k (.pure v) | none => none
   |_, _ => none
  |_, _ => none
 | .indexAddr t x i =>
  match evT P tm t x, evT P tm 0 i with
  |some (.sl _ ks rows r), some (.dv (.val (.int _ i))) =>
   if elemOk P t ks && Nat.blt 0 ks.length then if 0 ≤ i then if i < (rows.length : Int) then k (.pure (.pv ks (rows.getD i.toNat []) r.at)) else none else none else none
  |some (.ms j ks off n _), some (.dv (.val (.int _ i))) =>
   if elemOk P t ks && Nat.blt 0 ks.length then if 0 ≤ i then if i < (n : Int) then k (.pure (.pa j ks (off + i.toNat) 0)) else none else none else none
  |some (.pl j o), some (.dv (.val (.int _ i))) =>
   match P.underlying t with
   |some (.array l e) => match size? P e with
    |some n => if 0 ≤ i then if i < (l : Int) then if Nat.blt (o + l * n) mapOff then k (.pure (.pl j (o + i.toNat * n))) else none else none else none
    |none => none
   |_ => none
  |_, _ => none
 | .index t x i =>
  match evT P tm t x, evT P tm 0 i with
  |some (.dv (.val (.string s))), some (.dv (.val (.int _ i))) =>
   match P.underlying t with
   |some .string => if 0 ≤ i then if i < (s.size : Int) then k (.pure (.I .u8 (bt s i))) else none else none
   |_ => none
  |some (.agg cs), some (.dv (.val (.int _ i))) =>
   match P.underlying t with
   |some (.array l e) => match kdsOf P 9 e, agg? P e, size? P e, AV.flats cs with
    |some [kd], some false, some 1, some row =>
     if Nat.beq cs.length l && Row.ofKds (List.replicate l kd) row then
      if 0 ≤ i then if i < (l : Int) then k (.pure (Row.cell kd row i.toNat)) else none else none
     else none
    |some [_], some false, some 1, none => if Nat.beq cs.length l then pickIx (fun v => k (.pure v)) i 0 cs else none
    |_, _, _, _ => none
   |_ => none
  |_, _ => none
 | .typeAssert x _ t false =>
  match P.underlying t, evT P tm 0 x with
  |some (.interface _), _ => none
  |some _, some (.ifc u v) => if Nat.beq u t then k (.pure v) else none
  |_, _ => none
 | .extract x i =>
  match evT P tm 0 x with
  |some (.tup vs) => match vs[i]? with | some v => k (.pure v) | none => none
  |_ => none
 | .panic x =>
  match evT P tm o.type x with
  |some (.ifc t v) => kp (.pure (.ifc t v))
  |_ => none
 | .call c =>
  match c.callee with
  | .builtin b => match evs P tm c.argTypes.toList c.args.toList with
   |some args => builtinE P m o.dst b c.argTypes.toList args k
   |none => none
  | .value f => match evT P tm 0 f, evs P tm c.argTypes.toList c.args.toList with
   |some (.fn f caps), some args => callE Φ m o.dst f (args ++ caps) k kp
   |_, _ => none
  |_ => none
 |_ => none

inductive Ex where
 |normal | exit (id : Nat) | ret | pan (v : AV)

def Eff.val : Eff → AV
 | .pure r => r
 | .full r _ _ _ => r

def stepE {R : Type} (o : Oper) (s : St) (k : St → Option R) (kp : AV → St → Option R) : Option R :=
 opE P Φ s.t s.m o (fun e => k (s.apply o.dst e)) (fun e => kp e.val (s.apply none e))

def guardTmp : List Oper → Nat → Option Tmp
 |[], _ => none
 |o :: _, 0 => o.dst
 |_ :: l, j + 1 => guardTmp l j

def touch (tm : List AV) (m : Mem) (o : Oper) : List Nat :=
 match o.op with
 | .load _ x => match evT P tm 0 x with | some (.pl j _) => [j] | some (.pa j _ _ _) => [j] | _ => []
 | .store _ x _ => match evT P tm 0 x with | some (.pl j _) => [j] | some (.pa j _ _ _) => [j] | _ => []
 | .lookup t x _ _ => match evT P tm t x with | some (.pl j _) => [j] | _ => []
 | .mapUpdate t x _ _ => match evT P tm t x with | some (.pl j _) => [j] | _ => []
 | .call c => match c.callee with
  | .value f => match evT P tm 0 f, evs P tm c.argTypes.toList c.args.toList with
   |some (.fn _ caps), some args => reach m (AV.slots (args ++ caps))
   |_, _ => []
  | .builtin .clear => match evs P tm c.argTypes.toList c.args.toList with | some args => AV.slots args | none => []
  | .builtin .copy => match evs P tm c.argTypes.toList c.args.toList with | some args => AV.slots args | none => []
  | .builtin .append => match evs P tm c.argTypes.toList c.args.toList with | some args => AV.slots args | none => []
  |_ => []
 |_ => []
mutual
def AV.clean (p ks : List Nat) : AV → Bool
 | .sl _ _ _ (.tok k) => !mem k ks
 | .agg cs => AV.cleanL p ks cs
 | .tup cs => AV.cleanL p ks cs
 | .pl k _ => !mem k p
 | .ms k _ _ _ _ => !mem k p
 | .pa k _ _ _ => !mem k p
 | .fn _ cs => AV.cleanL p ks cs
 | .ifc _ v => AV.clean p ks v
 |_ => true
def AV.cleanL (p ks : List Nat) : List AV → Bool
 |[] => true
 |a :: l => AV.clean p ks a && AV.cleanL p ks l
end
def tmpsOf : List Operand → List Nat
 |[] => []
 | .tmp t :: l => t :: tmpsOf l
 |_ :: l => tmpsOf l
def names (all : List Oper) (o : Oper) : List Nat :=
 match o.guard with
 |none => tmpsOf o.op.operands.toList
 |some (g, _) => match guardTmp all g with
  |some d => d :: tmpsOf o.op.operands.toList
  |none => tmpsOf o.op.operands.toList
def ownP (hs : List Nat) (o : Oper) : List Nat :=
 match o.op, o.dst with
 | .call c, some d => match mem (4000000 + d) hs with
  |true => [d, d + 300, d + 600]
  |false => []
 | .alloc _, some d => [d]
 | .box _ _, some d => [d]
 |_, _ => []
def ownK (o : Oper) : List Nat :=
 match o.op with
 | .call c => match c.callee with
  | .builtin _ => match o.dst with | some d => [d] | none => []
  |_ => match o.dst with | some d => toks8 d | none => toks8 0
 |_ => []
def bindsOf : List Edge → List Nat
 |[] => []
 |e :: l => match Region.binds .any e with | true => e.on :: bindsOf l | false => bindsOf l
def close (acc : List (List Nat)) : List Nat → List Nat
 |[] => []
 |j :: l => j :: (acc.getD j [] ++ close acc l)
def befs : List Oper → List (List Nat) → List (List Nat)
 |[], acc => acc
 |o :: l, acc => befs l (acc ++ [dedup (close acc (bindsOf o.after.toList))])
def bef (B : List (List Nat)) (i j : Nat) : Bool := mem i (B.getD j [])
def fixed (B : List (List Nat)) (i : Nat) : Nat → Bool
 |0 => true
 |j + 1 => (Nat.beq j i || bef B i j || bef B j i) && fixed B i j

structure El where
 o : Oper
 eff : Eff
 want : Bool
 tch : List Nat
 nm : List Nat
 p : List Nat
 k : List Nat
def El.of (hs : List Nat) (all : List Oper) (B : List (List Nat)) (i : Nat) (o : Oper) (eff : Eff) (want : Bool) (tch : List Nat) : El :=
 match fixed B i all.length with
 |true => ⟨o, eff, want, tch, names all o, [], []⟩
 |false => ⟨o, eff, want, tch, names all o, ownP hs o, ownK o⟩
def strikes (hs : List Nat) (all : List Oper) (B : List (List Nat)) : Nat → List Oper → List Nat × List Nat
 |_, [] => ([], [])
 |i, o :: l => match strikes hs all B (i + 1) l with
  |(p, k) => match fixed B i all.length with
   |true => (p, k)
   |false => (ownP hs o ++ p, ownK o ++ k)
def disj : List Nat → List Nat → Bool
 |[], _ => true
 |k :: l, ks => !mem k ks && disj l ks
def keys : List (Nat × List AV) → List Nat
 |[] => []
 |(k, _) :: l => k :: keys l
def cleanW (p ks : List Nat) : List (Nat × List AV) → Bool
 |[] => true
 |(k, cs) :: l => !mem k p && AV.cleanL p ks cs && cleanW p ks l
def Eff.clean (p ks : List Nat) : Eff → Bool
 | .pure r => r.clean p ks
 | .full r _ _ wr => r.clean p ks && cleanW p ks wr
def sub : List Nat → List Nat → Bool
 |[], _ => true
 |k :: l, ks => mem k ks && sub l ks
def Eff.within (p ks : List Nat) : Eff → Bool
 | .pure _ => true
 | .full _ p' ks' _ => sub p' p && sub ks' ks
def Eff.keys : Eff → List Nat
 | .pure _ => []
 | .full _ _ _ wr => Den.keys wr
def dstNot (d : Option Tmp) (l : List Nat) : Bool :=
 match d with
 |some d => !mem d l
 |none => true
def dstNe (d d' : Option Tmp) : Bool :=
 match d, d' with
 |some d, some d' => !Nat.beq d d'
 |_, _ => true
def El.blind (a b : El) : Bool :=
 a.eff.within a.p a.k && dstNot a.o.dst b.nm && disj a.eff.keys b.tch && disj a.p b.tch
def Eff.cleanQ (p ks : List Nat) (e : Eff) : Bool :=
 match p, ks with
 |[], [] => true
 |p, ks => e.clean p ks
def okPair (before : Bool) (a b : El) : Bool :=
 a.eff.cleanQ b.p b.k &&
 match before with
 |true => true
 |false => b.eff.cleanQ a.p a.k && El.blind a b && El.blind b a && dstNe a.o.dst b.o.dst && disj a.eff.keys b.eff.keys
def okAll (B : List (List Nat)) (j : Nat) : Nat → List El → El → Bool
 |_, [], _ => true
 |i, a :: l, b => okPair (bef B i j) a b && okAll B j (i + 1) l b

mutual
def AV.force {R : Type} : AV → (AV → Option R) → Option R
 | .dv d, k => k (.dv d)
 | .sl n ks rows r, k => k (.sl n ks rows r)
 | .agg cs, k => AV.forceL cs fun cs => k (.agg cs)
 | .tup cs, k => AV.forceL cs fun cs => k (.tup cs)
 | .pl i off, k => k (.pl i off)
 | .pv ks row off, k => k (.pv ks row off)
 | .fn f caps, k => AV.forceL caps fun caps => k (.fn f caps)
 | .ifc t v, k => AV.force v fun v => k (.ifc t v)
 | .ms i ks off n c, k => k (.ms i ks off n c)
 | .pa i ks a b, k => k (.pa i ks a b)
 | .arr ks rows, k => k (.arr ks rows)
 | .junk, k => k .junk
def AV.forceL {R : Type} : List AV → (List AV → Option R) → Option R
 |[], k => k []
 |a :: l, k => AV.force a fun a => AV.forceL l fun l => k (a :: l)
end
def forceM {R : Type} : Mem → (Mem → Option R) → Option R
 |[], k => k []
 |(i, cs) :: m, k => AV.forceL cs fun cs => forceM m fun m => k ((i, cs) :: m)
def St.force {R : Type} (s : St) (k : St → Option R) : Option R := AV.forceL s.t fun t => forceM s.m fun m => k { t := t, m := m }

def forceN {R : Type} : List Nat → (List Nat → Option R) → Option R
 |[], k => k []
 |a :: l, k => forceN l fun l => k (a :: l)
def forceNN {R : Type} : List (List Nat) → (List (List Nat) → Option R) → Option R
 |[], k => k []
 |a :: l, k => forceN a fun a => forceNN l fun l => k (a :: l)
def Eff.force {R : Type} : Eff → (Eff → Option R) → Option R
 | .pure r, k => AV.force r fun r => k (.pure r)
 | .full r p ks wr, k => AV.force r fun r => forceN p fun p => forceN ks fun ks => forceM wr fun wr => k (.full r p ks wr)
def El.force {R : Type} : El → (El → Option R) → Option R
 |⟨o, eff, want, tch, nm, p, ks⟩, k => forceN tch fun tch => forceN nm fun nm => forceN p fun p => forceN ks fun ks => eff.force fun eff => k ⟨o, eff, want, tch, nm, p, ks⟩
def forceEls {R : Type} : List El → (List El → Option R) → Option R
 |[], k => k []
 |a :: l, k => forceEls l fun l => k (a :: l)
def forceSp {R : Type} : List (List Nat) → (List (List Nat) → Option R) → Option R
 |[], k => k []
 |a :: l, k => forceSp l fun l => k (a :: l)
def befsK {R : Type} : List Oper → List (List Nat) → (List (List Nat) → Option R) → Option R
 |[], acc, k => k acc
 |o :: l, acc, k => forceN (dedup (close acc (bindsOf o.after.toList))) fun row => forceSp (acc ++ [row]) fun acc => befsK l acc k
def regN {R : Type} (B : List (List Nat)) (acc : List El) (el : El) (s : St) (go : List El → St → Option R) : Option R :=
 el.force fun el => if okAll B acc.length 0 acc el then forceEls (acc ++ [el]) fun acc => s.force fun s => go acc s else none

def afters (B : List (List Nat)) (j : Nat) : Nat → Nat → Bool
 |0, _ => true
 |k + 1, i => bef B j i && afters B j k (i + 1)
def freeD (B : List (List Nat)) (j : Nat) (nm : List Nat) : Nat → List El → Option (List Nat)
 |_, [] => some []
 |i, el :: l =>
  match freeD B j nm (i + 1) l with
  |none => none
  |some D =>
   match bef B i j with
   |true => some D
   |false =>
    match el.eff, el.o.dst with
    | .pure _, some d => if mem d nm then none else some (d :: D)
    | .pure _, none => some D
    |_, _ => none
def junkT (D : List Nat) : Nat → List AV → List AV
 |_, [] => []
 |i, a :: l => (if mem i D then .junk else a) :: junkT D (i + 1) l
def regP {R : Type} (kp : AV → St → Option R) (all : List Oper) (B : List (List Nat)) (acc : List El) (o : Oper) (s : St) (e : Eff) : Option R :=
 match afters B acc.length (all.length - (acc.length + 1)) (acc.length + 1), freeD B acc.length (names all o) 0 acc with
 |true, some D => e.force fun e => ((St.mk (junkT D 0 s.t) s.m).apply none e).force fun s => kp e.val s
 |_, _ => none

def regD {R : Type} (kp : AV → St → Option R) (all : List Oper) (B : List (List Nat)) : List Oper → List El → St → (St → Option R) → Option R
 |[], _, s, k => k s
 |o :: rest, acc, s, k =>
  match o.guard with
  |none =>
   opE P Φ s.t s.m o (fun e =>
    regN B acc (El.of Φ.hs all B acc.length o e true (touch P s.t s.m o)) (s.apply o.dst e) (fun acc s => regD kp all B rest acc s k)) (fun e => regP kp all B acc o s e)
  |some (j, want) =>
   match guardTmp all j with
   |none => none
   |some d =>
    match s.t[d]? with
    |some (.dv (.val (.bool b))) =>
     match b, want with
     |true, true =>
      opE P Φ (s.t.set d (.B true)) s.m o (fun e =>
       regN B acc (El.of Φ.hs all B acc.length o e true (touch P (s.t.set d (.B true)) s.m o)) ((St.mk (s.t.set d (.B true)) s.m).apply o.dst e) (fun acc s => regD kp all B rest acc s k)) (fun _ => none)
     |false, false =>
      opE P Φ (s.t.set d (.B false)) s.m o (fun e =>
       regN B acc (El.of Φ.hs all B acc.length o e true (touch P (s.t.set d (.B false)) s.m o)) ((St.mk (s.t.set d (.B false)) s.m).apply o.dst e) (fun acc s => regD kp all B rest acc s k)) (fun _ => none)
     |true, false =>
      regN B acc (El.of Φ.hs all B acc.length o (.pure .junk) false []) ((St.mk (s.t.set d (.B true)) s.m).apply o.dst (.pure .junk)) (fun acc s => regD kp all B rest acc s k)
     |false, true =>
      regN B acc (El.of Φ.hs all B acc.length o (.pure .junk) false []) ((St.mk (s.t.set d (.B false)) s.m).apply o.dst (.pure .junk)) (fun acc s => regD kp all B rest acc s k)
    |_ => none
def strike (p ks : List Nat) (s : St) : St := { t := AV.scrubL p ks s.t, m := tidy (scrubM p ks (dropAll s.m p)) }
def backs : Nat → List Oper → Bool
 |_, [] => true
 |i, o :: l => backsL i (bindsOf o.after.toList) && backs (i + 1) l
where
 backsL (i : Nat) : List Nat → Bool
 |[] => true
 |j :: l => Nat.blt j i && backsL i l
def regA {R : Type} (kp : AV → St → Option R) (ops : List Oper) (s : St) (k : St → Option R) : Option R :=
 if backs 0 ops then
  befsK ops [] fun B => match strikes Φ.hs ops B 0 ops with
  |(p, ks) => regD P Φ kp ops B ops [] (strike p ks s) k
 else none

def Right.retok (j : Nat) (rows : Rows) : Right → Right
 | .no => .no
 | .ex => match rows.isEmpty with | true => .tok j | false => .no
 | .tok _ => .tok j
 | .old => .old
def AV.retok (j : Nat) : AV → AV
 | .sl n ks rows r => .sl n ks rows (r.retok j rows)
 |a => a.bare
def retokL : Nat → List AV → List AV
 |_, [] => []
 |j, a :: l => a.retok j :: retokL (j + 1) l
def keepT (tl : List Nat) : Nat → List AV → List AV
 |_, [] => []
 |i, a :: l => (if mem i tl then a else .junk) :: keepT tl (i + 1) l
def keepM (ml : List Nat) : Mem → Mem
 |[] => []
 |(k, cs) :: m => if mem k ml then (k, cs) :: keepM ml m else keepM ml m
def deadM (ml : List Nat) : Mem → List Nat
 |[] => []
 |(k, _) :: m => if mem k ml then deadM ml m else k :: deadM ml m
def memToks : Mem → List Nat
 |[] => []
 |(_, cs) :: m => topToks cs ++ memToks m
def retokM : Mem → Mem
 |[] => []
 |(k, cs) :: m => (k, retokL (20000 + 64 * k) cs) :: retokM m
def shortM : Mem → Bool
 |[] => true
 |(_, cs) :: m => Nat.ble cs.length 64 && shortM m
def norm (tl ml : List Nat) (s : St) : Option St :=
 let t := AV.scrubL (deadM ml s.m) [] (keepT tl 0 s.t)
 let m := scrubM (deadM ml s.m) [] (keepM ml s.m)
 if nodup (topToks t ++ memToks m) && Nat.ble t.length 1000 && shortM m then some { t := retokL 0 t, m := retokM m } else none

def key : Code → Nat
 | .region id _ _ => id
 | .seq a _ => key a
 | .block _ b => key b
 | .loop b => key b
 | .scope b => key b
 |_ => 0

def loopE {R : Type} (q : Nat) (tl ml : List Nat) (body : (Ex → St → Option R) → St → Option R) : Nat → (Ex → St → Option R) → St → Option R
 |0, _, _ => none
 |n + 1, K, s => body (fun e s' => match e with
  | .normal => match norm tl ml s' with
   |some s' => loopE q tl ml body n K s'
   |none => none
  |e => K e s') s

abbrev Live := List (Nat × List Nat × List Nat)
def live : Live → Nat → Option (List Nat × List Nat)
 |[], _ => none
 |(j, l) :: r, k => if Nat.beq j k then some l else live r k

def Kd.tag : Kd → Nat
 | .b => 0
 | .i _ => 1
 | .s => 2
 | .sl _ => 3
 | .o => 4
def Kd.tagIn (t : Nat) : List Kd → Bool
 |[] => false
 |k :: l => Nat.beq k.tag t || Nat.beq k.tag 4 || Kd.tagIn t l
def Kd.outs (ks : List Kd) : List Kd → Bool
 |[] => false
 |l :: _ => !(Nat.beq l.tag 4) && !(Kd.tagIn l.tag ks)
mutual
def Kd.inner (ks : List Kd) : Kd → Bool
 | .sl ls => Kd.outs ks ls && Kd.inners ks ls
 |_ => true
def Kd.inners (ks : List Kd) : List Kd → Bool
 |[] => true
 |k :: l => Kd.inner ks k && Kd.inners ks l
end
def DV.melt (ks : List Kd) : DV → AV
 | .val v => .dv (.val v)
 | .sl nl ls rows => match Kd.outs ks ls && Kd.inners ks ls with
  |true => .dv (.sl nl ls rows)
  |false => .junk
def Right.melt (slot j : Nat) (ks : List Kd) (n : Nat) (nl : Bool) (ls : List Kd) (rows : Rows) : Right → AV
 | .old => .sl nl ls rows .old
 | .tok k => match Nat.beq k j with
  |true => match Kd.sameL ks ls with
   |true => .ms slot ks 0 n n
   |false => .junk
  |false => match Kd.inners ks ls with
   |true => .sl nl ls rows (.tok k)
   |false => .junk
 |r => match Kd.outs ks ls && Kd.inners ks ls with
  |true => .sl nl ls rows r
  |false => .junk
mutual
def AV.melt (slot j : Nat) (ks : List Kd) (n : Nat) : AV → AV
 | .dv d => d.melt ks
 | .sl nl ls rows r => r.melt slot j ks n nl ls rows
 | .agg cs => .agg (AV.meltL slot j ks n cs)
 | .tup cs => .tup (AV.meltL slot j ks n cs)
 | .pl k off => if Nat.beq k slot then .junk else .pl k off
 | .pv ls row off => match isOld off || (Kd.outs ks ls && Kd.inners ks ls) with
  |true => .pv ls row off
  |false => .junk
 | .fn f cs => .fn f (AV.meltL slot j ks n cs)
 | .ifc t v => .ifc t (AV.melt slot j ks n v)
 | .ms k ls off n' c => if Nat.beq k slot then .junk else .ms k ls off n' c
 | .pa k ls i q => if Nat.beq k slot then .junk else .pa k ls i q
 | .arr ls rows => match Kd.inners ks ls with
  |true => .arr ls rows
  |false => .arr ls []
 | .junk => .junk
def AV.meltL (slot j : Nat) (ks : List Kd) (n : Nat) : List AV → List AV
 |[] => []
 |a :: l => AV.melt slot j ks n a :: AV.meltL slot j ks n l
end
def meltM (slot j : Nat) (ks : List Kd) (n : Nat) : Mem → Mem
 |[] => []
 |(k, cs) :: m => (k, AV.meltL slot j ks n cs) :: meltM slot j ks n m
def thaw {R : Type} (t slot : Nat) (s : St) (k : St → Option R) : Option R :=
 match s.t[t]? with
 |some (.sl nl ks rows (.tok j)) =>
  match nl || rows.isEmpty with
  |true => k { t := s.t.set t (.sl nl ks [] (.tok j)), m := s.m }
  |false => match Kd.inners ks ks && Nat.blt slot 1000 with
   |true => k { t := AV.meltL slot j ks rows.length s.t, m := write (meltM slot j ks rows.length (drop s.m slot)) slot [.arr ks rows] }
   |false => none
 |some _ => k s
 |none => none
mutual
def AV.chill (slot t : Nat) (ks : List Kd) (rows : Rows) (lim : Nat) : AV → AV
 | .sl n kd rs r => .sl n kd rs (r.scrub [40000 + t])
 | .agg cs => .agg (AV.chillL slot t ks rows lim cs)
 | .tup cs => .tup (AV.chillL slot t ks rows lim cs)
 | .pl k off => if mem k [slot] then .junk else .pl k off
 | .fn f caps => .fn f (AV.chillL slot t ks rows lim caps)
 | .ifc u v => .ifc u (AV.chill slot t ks rows lim v)
 | .dv d => .dv d
 | .pv kd row off => .pv kd row off
 | .ms k kd off n c => if mem k [slot] then (match Kd.sameL kd ks && Nat.ble (off + n) lim with | true => .sl false ks ((rows.drop off).take n) .no | false => .junk) else .ms k kd off n c
 | .pa k kd i j => if mem k [slot] then .junk else .pa k kd i j
 | .arr kd rs => .arr kd rs
 | .junk => .junk
def AV.chillL (slot t : Nat) (ks : List Kd) (rows : Rows) (lim : Nat) : List AV → List AV
 |[] => []
 |a :: l => AV.chill slot t ks rows lim a :: AV.chillL slot t ks rows lim l
end
def chillM (slot t : Nat) (ks : List Kd) (rows : Rows) (lim : Nat) : Mem → Mem
 |[] => []
 |(k, cs) :: m => (k, AV.chillL slot t ks rows lim cs) :: chillM slot t ks rows lim m
def AV.chillK {R : Type} (slot t : Nat) (ks : List Kd) (rows : Rows) (lim : Nat) (a : AV) (K : AV → Option R) : Option R :=
 match a with
 | .ms k kd off n c => match mem k [slot] with
  |true => match Kd.sameL kd ks && Nat.ble (off + n) lim with
   |true => K (.sl false ks ((rows.drop off).take n) .no)
   |false => none
  |false => K (.ms k kd off n c)
 |a => K (AV.chill slot t ks rows lim a)
def chillLK {R : Type} (slot t : Nat) (ks : List Kd) (rows : Rows) (lim : Nat) : List AV → (List AV → Option R) → Option R
 |[], K => K []
 |a :: l, K => AV.chillK slot t ks rows lim a fun a => chillLK slot t ks rows lim l fun l => K (a :: l)
def chillMK {R : Type} (slot t : Nat) (ks : List Kd) (rows : Rows) (lim : Nat) : Mem → (Mem → Option R) → Option R
 |[], K => K []
 |(k, cs) :: m, K => chillLK slot t ks rows lim cs fun cs => chillMK slot t ks rows lim m fun m => K ((k, cs) :: m)
def freeze {R : Type} (t : Nat) (s : St) (k : St → Option R) : Option R :=
 match s.t[t]? with
 |some (.ms slot ks off n _) =>
  match lookupA s.m slot with
  |some (ks2, rows) => match Kd.sameL ks ks2 && Nat.blt slot 1000 with
   |true => if off + n ≤ rows.length then
     chillMK slot t ks rows (off + n) (drop s.m slot) fun m => k { t := (AV.scrubL [slot] [40000 + t] s.t).set t (.sl false ks ((rows.drop off).take n) (match Nat.beq off 0 && !u8k ks with | true => .tok (40000 + t) | false => .no)), m := m }
    else none
   |false => none
  |none => none
 |some _ => k s
 |none => none
def slLike : AV → Bool
 | .sl .. => true
 | .ms .. => true
 | .junk => true
 |_ => false
def atE {R : Type} (sl idx n : Nat) (k : St → Option R) (s : St) : Option R :=
 match s.t[n]? with
 |some c => match lookup s.m sl with
  |some cs => match cs[idx]? with
   |some c0 => match slLike c && slLike c0 && !Nat.beq cs.length 3 with
    |true => k { t := s.t.take n, m := write s.m sl (cs.set idx c) }
    |false => none
   |none => none
  |none => none
 |none => none
def renTok {R : Type} (t : Nat) (s : St) (k : St → Option R) : Option R :=
 match s.t[t]? with
 |some (.sl nl ks rows (.tok j)) => k { t := (AV.scrubL [] [40000 + t, j] s.t).set t (.sl nl ks rows (.tok (40000 + t))), m := scrubM [] [40000 + t, j] s.m }
 |some _ => k s
 |none => none
def atM {R : Type} (sl idx : Nat) (f : Nat → St → (St → Option R) → Option R) (s : St) (k : St → Option R) : Option R :=
 match lookup s.m sl with
 |some cs => match cs[idx]? with
  |some c => match slLike c with
   |true => f s.t.length { t := s.t ++ [c], m := s.m } (atE sl idx s.t.length k)
   |false => k s
  |none => k s
 |none => k s
def niled {R : Type} (t : Nat) (s : St) (k : St → Option R) : Option R :=
 match s.t[t]? with
 |some (.sl nl ks rows r) =>
  match nl with
  |true => k { t := s.t.set t (.sl true ks [] .ex), m := s.m }
  |false => k { t := s.t.set t (.sl false ks rows r), m := s.m }
 |some _ => k s
 |none => none
def bareAt {R : Type} (slot : Nat) (s : St) (k : St → Option R) : Option R :=
 match lookup s.m slot with
 |some cs => k { t := s.t, m := write s.m slot (AV.bareL cs) }
 |none => k s
mutual
def AV.ren (src dst : Nat) : AV → AV
 | .dv d => .dv d
 | .sl n kd rows r => .sl n kd rows r
 | .agg cs => .agg (AV.renL src dst cs)
 | .tup cs => .tup (AV.renL src dst cs)
 | .pl k off => match Nat.beq k src with | true => .pl dst off | false => match Nat.beq k dst with | true => .junk | false => .pl k off
 | .pv kd row off => .pv kd row off
 | .fn f caps => .fn f (AV.renL src dst caps)
 | .ifc t v => .ifc t (AV.ren src dst v)
 | .ms k kd off n c => match Nat.beq k src with | true => .ms dst kd off n c | false => match Nat.beq k dst with | true => .junk | false => .ms k kd off n c
 | .pa k kd i j => match Nat.beq k src with | true => .pa dst kd i j | false => match Nat.beq k dst with | true => .junk | false => .pa k kd i j
 | .arr kd rows => .arr kd rows
 | .junk => .junk
def AV.renL (src dst : Nat) : List AV → List AV
 |[] => []
 |a :: l => AV.ren src dst a :: AV.renL src dst l
end
def renM (src dst : Nat) : Mem → Mem
 |[] => []
 |(k, cs) :: m => (k, AV.renL src dst cs) :: renM src dst m
def renSlot {R : Type} (src dst : Nat) (s : St) (k : St → Option R) : Option R :=
 match lookup s.m src with
 |some cs => match Nat.blt src 1000 && Nat.blt dst 1000 && !Nat.beq src dst with
  |true => k { t := AV.renL src dst s.t, m := renM src dst (drop (write s.m dst cs) src) }
  |false => none
 |none => k s
def pre {R : Type} : List Nat → St → (St → Option R) → Option R
 |[], s, k => k s
 |0 :: t :: slot :: l, s, k => thaw t slot s fun s => pre l s k
 |1 :: t :: l, s, k => freeze t s fun s => pre l s k
 |2 :: t :: l, s, k => niled t s fun s => pre l s k
 |3 :: slot :: l, s, k => bareAt slot s fun s => pre l s k
 |4 :: slot :: idx :: l, s, k => atM slot idx (fun t s k => freeze t s k) s fun s => pre l s k
 |5 :: slot :: idx :: l, s, k => atM slot idx (fun t s k => renTok t s k) s fun s => pre l s k
 |6 :: slot :: idx :: new :: l, s, k => match Nat.beq slot new with
  |true => none
  |false => atM slot idx (fun t s k => thaw t new s k) s fun s => pre l s k
 |7 :: src :: dst :: l, s, k => renSlot src dst s fun s => pre l s k
 |_, _, _ => none
def anyPrep : Live → Bool
 |[] => false
 |(j, _) :: l => Nat.ble 1000000 j || anyPrep l
def prep (lv : Live) (id : Nat) : List Nat := match live lv (1000000 + id) with | some (l, _) => l | none => []

def opPrep (lv : Live) (o : Oper) : List Nat := match o.dst with | some d => prep lv (2000000 + d) | none => []
def reg1 {R : Type} (all : List Oper) (o : Oper) (s : St) (k : St → Option R) (kp : AV → St → Option R) : Option R :=
  match o.guard with
  |none => stepE P Φ o s k kp
  |some (j, want) =>
   match guardTmp all j with
   |none => none
   |some d =>
    match s.t[d]? with
    |some (.dv (.val (.bool b))) =>
     match b, want with
     |true, true => stepE P Φ o { t := s.t.set d (.B true), m := s.m } k kp
     |false, false => stepE P Φ o { t := s.t.set d (.B false), m := s.m } k kp
     |true, false => k { t := setT (s.t.set d (.B true)) o.dst (.tup []), m := s.m }
     |false, true => k { t := setT (s.t.set d (.B false)) o.dst (.tup []), m := s.m }
    |some (.tup []) => k { t := setT s.t o.dst (.tup []), m := s.m }
    |_ => none
def regE {R : Type} (lv : Live) (all : List Oper) : List Oper → St → (St → Option R) → (AV → St → Option R) → Option R
 |[], s, k, _ => k s
 |o :: rest, s, k, kp => pre (opPrep lv o) s fun s => reg1 P Φ all o s (fun s' => regE lv all rest s' k kp) kp

def den {R : Type} (lv : Live) (n : Nat) : Code → (Ex → St → Option R) → St → Option R
 | .skip, K, s => K .normal s
 | .region id ops draw, K, s => pre (prep lv id) s fun s =>
  match draw with
  |false => regE P Φ lv ops.toList ops.toList s (fun s => s.force (fun s => K .normal s)) (fun v s => K (.pan v) s)
  |true => regA P Φ (fun v s => K (.pan v) s) ops.toList s (fun s => s.force (fun s => K .normal s))
 | .seq a b, K, s => den lv n a (fun e s' => match e with | .normal => den lv n b K s' | e => K e s') s
 | .cond c a b, K, s =>
  match evT P s.t 0 c with
  |some (.dv (.val (.bool x))) => match x with | true => den lv n a K s | false => den lv n b K s
  |_ => none
 | .block id b, K, s => den lv n b (fun e s' => match e with | .exit j => if Nat.beq j id then K .normal s' else K (.exit j) s' | e => K e s') s
 | .loop b, K, s =>
  match live lv (key b) with
  |some (tl, ml) => match norm tl ml s with
   |some s => loopE (key b) tl ml (fun K s => den lv n b K s) n K s
   |none => none
  |none => none
 | .exit id, K, s => K (.exit id) s
 | .ret, K, s => pre (prep lv 999998) s fun s => K .ret s
 | .scope b, K, s => den lv n b K s
 | .label _, K, s => K .normal s
 |_, _, _ => none

structure LoopAt (R : Type) where
 tl : List Nat
 ml : List Nat
 body : (Ex → St → Option R) → St → Option R
 K : Ex → St → Option R
def find {R : Type} (lv : Live) (n : Nat) (q : Nat) : List Nat → Code → (Ex → St → Option R) → Option (LoopAt R)
 |left, .seq a b, K =>
  match find lv n q left a (fun e s' => match e with | .normal => den P Φ lv n b K s' | e => K e s') with
  |some r => some r
  |none => find lv n q left b K
 |left, .cond _ a b, K =>
  match find lv n q left a K with
  |some r => some r
  |none => find lv n q left b K
 |left, .scope b, K => find lv n q left b K
 |left, .block id b, K => find lv n q left b (fun e s' => match e with | .exit j => if Nat.beq j id then K .normal s' else K (.exit j) s' | e => K e s')
 |left, .loop b, K =>
  match live lv (key b) with
  |none => none
  |some (tl, ml) =>
   if Nat.beq (key b) q then some ⟨tl, ml, fun K s => den P Φ lv n b K s, K⟩ else
   match left with
   |[] => none
   |i :: left => find lv n q left b (fun e s' => match e with
    | .normal => match norm tl ml s' with
     |some s' => loopE (key b) tl ml (fun K s => den P Φ lv n b K s) i K s'
     |none => none
    |e => K e s')
 |_, _, _ => none

def zipExt : Nat → List (List AV) → Mem
 |_, [] => []
 |i, cs :: e => (i, cs) :: zipExt (i + 1) e
def extOf (m : Mem) : Nat → List (List AV) → Option (List (List AV))
 |_, [] => some []
 |i, _ :: e => match lookup m i with
  |some cs => match extOf m (i + 1) e with
   |some r => some (AV.bareL cs :: r)
   |none => none
  |none => none
def lentX : List (List AV) → Bool
 |[] => false
 |c :: _ => match topToks c with | [] => false | _ :: _ => true
def extX (m : Mem) (ext : List (List AV)) : Option (List (List AV)) :=
 match lentX ext with
 |false => extOf m 1000 ext
 |true => match ext, lookup m 1000 with
  |_ :: e, some cs => match plain cs && nodup (topToks cs), extOf m 1001 e with
   |true, some r => some (retokL 0 cs :: r)
   |_, _ => none
  |_, _ => none
def resE {R : Type} (s : St) : List ResultVar → (List AV → Option R) → Option R
 |[], k => k []
 | .tmp t :: l, k => match s.t[t]? with
  |some v => resE s l fun vs => k (v :: vs)
  |none => none
 | .cell a t :: l, k => match s.t[a]? with
  |some v => loadE P s.m t v fun e => resE s l fun vs => k (e.val :: vs)
  |none => none
def AV.young : AV → AV
 | .sl n ks rows .old => .sl n ks rows .no
 |a => a
def youngL : List AV → List AV
 |[] => []
 |a :: l => a.young :: youngL l
def canon (keep : Bool) (vs : List AV) : Option AV :=
 match keep with
 |true => match vs with
  |[.agg cs] => if nodup (topToks (youngL cs)) then some (.agg (retokL 0 (youngL cs))) else none
  |vs => if nodup (topToks (youngL vs)) then (match youngL vs with | [v] => some (v.retok 0) | vs => some (.tup (retokL 0 vs))) else none
 |false => match vs with | [v] => some v.bare | vs => some (.tup (AV.bareL vs))
def fin {R : Type} (fn : Func) (keep : Bool) (ext : List (List AV)) (K : Out → Option R) (e : Ex) (s : St) : Option R :=
 match e with
 | .exit _ => none
 | .pan v => match extX s.m ext with
  |some ex => K ⟨true, v.bare, ex⟩
  |none => none
 |_ => resE P s fn.results.toList fun vs => match canon (keep && !lentX ext) vs, extX s.m ext with
  |some v, some ex => K ⟨false, v, ex⟩
  |_, _ => none
def denFn {R : Type} (lv : Live) (n : Nat) (fn : Func) (keep : Bool) (args : List AV) (ext : List (List AV)) (K : Out → Option R) : Option R :=
 match fn.body with
 |none => none
 |some c =>
  if Nat.ble args.length fn.ntmps && !((AV.hasTokL args || AV.hasTokLL ext) && anyPrep lv) then
   den P Φ lv n c (fin P fn keep ext K) { t := (match live lv 999999 with | some _ => AV.oldenL args | none => args) ++ List.replicate (fn.ntmps - args.length) .junk, m := zipExt 1000 (match live lv 999999 with | some _ => oldExt ext | none => ext) }
  else none
def loopFn {R : Type} (lv : Live) (n : Nat) (fn : Func) (keep : Bool) (ext : List (List AV)) (K : Out → Option R) (q : Nat) (left : List Nat) (i : Nat) (s : St) : Option R :=
 match fn.body with
 |none => none
 |some c =>
  match find P Φ lv n q left c (fin P fn keep ext K) with
  |some r => loopE q r.tl r.ml r.body i r.K s
  |none => none
mutual
def AV.own (ds : List Nat) (n : Nat) : AV → AV
 | .dv d => .dv d
 | .sl nl kd rows _ => .sl nl kd rows .no
 | .agg cs => .agg (AV.ownL ds n cs)
 | .tup cs => .tup (AV.ownL ds n cs)
 | .pl k off => if mem k ds then .pl (1000 + n + index k ds) off else .junk
 | .pv kd row off => .pv kd row (pvOff off)
 | .ms k kd off q c => if mem k ds then .ms (1000 + n + index k ds) kd off q c else .junk
 | .arr kd rows => .arr kd rows
 |_ => .junk
def AV.ownL (ds : List Nat) (n : Nat) : List AV → List AV
 |[] => []
 |a :: l => AV.own ds n a :: AV.ownL ds n l
end
def ownOf (ds : List Nat) (n : Nat) (m : Mem) : List Nat → Option (List (List AV))
 |[] => some []
 |d :: l => match lookup m d with
  |some (c :: cs) => match ownOf ds n m l with
   |some r => some (AV.ownL ds n (c :: cs) :: r)
   |none => none
  |_ => none
def extN (ds : List Nat) (n : Nat) (m : Mem) : Nat → List (List AV) → Option (List (List AV))
 |_, [] => some []
 |i, _ :: e => match lookup m i with
  |some cs => match extN ds n m (i + 1) e with
   |some r => some (AV.ownL ds n cs :: r)
   |none => none
  |none => none
def oneOf : List AV → AV
 |[v] => v
 |vs => .tup vs
def finN {R : Type} (fn : Func) (ds : List Nat) (ext : List (List AV)) (K : Out → Option R) (e : Ex) (s : St) : Option R :=
 match e with
 | .exit _ => none
 | .pan _ => none
 |_ => resE P s fn.results.toList fun vs => match extN ds ext.length s.m 1000 ext, ownOf ds ext.length s.m ds with
  |some ex, some nw => K ⟨false, oneOf (AV.ownL ds ext.length vs), ex ++ nw⟩
  |_, _ => none
def denFnN {R : Type} (lv : Live) (n : Nat) (fn : Func) (ds : List Nat) (args : List AV) (ext : List (List AV)) (K : Out → Option R) : Option R :=
 match fn.body with
 |none => none
 |some c =>
  if Nat.ble args.length fn.ntmps && nodup ds && allLt 1000 ds && !ds.isEmpty && !(AV.hasTokL args || AV.hasTokLL ext) then
   den P Φ lv n c (finN P fn ds ext K) { t := (match live lv 999999 with | some _ => AV.oldenL args | none => args) ++ List.replicate (fn.ntmps - args.length) .junk, m := zipExt 1000 (match live lv 999999 with | some _ => oldExt ext | none => ext) }
  else none
def loopFnN {R : Type} (lv : Live) (n : Nat) (fn : Func) (ds : List Nat) (ext : List (List AV)) (K : Out → Option R) (q : Nat) (left : List Nat) (i : Nat) (s : St) : Option R :=
 match fn.body with
 |none => none
 |some c =>
  match find P Φ lv n q left c (finN P fn ds ext K) with
  |some r => loopE q r.tl r.ml r.body i r.K s
  |none => none
def deferOf : Code → Option (Oper × Operand)
 | .region _ ops false =>
  match ops.toList with
  |[o1, o2] =>
   match o1.guard, o2.guard, o2.dst, o2.op with
   |none, none, none, .defer c => match c.callee, c.args.toList with
    | .value f, [] => some (o1, f)
    |_, _ => none
   |_, _, _, _ => none
  |_ => none
 |_ => none
def behind : Code → Option Code
 | .seq a b => match deferOf a with
  |some _ => some b
  |none => behind b
 |_ => none
def isRecover (o : Oper) : Bool :=
 match o.op, o.guard with
 | .call c, none => match c.callee, c.args.toList with
  | .builtin .recover, [] => true
  |_, _ => false
 |_, _ => false
def AV.isPl : AV → Bool
 | .pl k _ => Nat.ble 1000 k
 |_ => false
def allPl : List AV → Bool
 |[] => true
 |a :: l => a.isPl && allPl l
mutual
def AV.loose : AV → Bool
 | .dv _ => true
 | .sl _ _ _ .no => true
 | .sl _ _ _ .ex => true
 | .agg cs => AV.looseL cs
 | .tup cs => AV.looseL cs
 | .junk => true
 |_ => false
def AV.looseL : List AV → Bool
 |[] => true
 |a :: l => a.loose && AV.looseL l
end
def ahead {R : Type} (lv : Live) (n : Nat) (kD : FuncId → List AV → Code → St → Option R) (K : Ex → St → Option R) : Code → St → Option R
 | .seq a b, s =>
  match deferOf a with
  |some (o1, f) => stepE P Φ o1 s (fun s => match evT P s.t 0 f with
   |some (.fn g caps) => kD g caps b s
   |_ => none) (fun v s => K (.pan v) s)
  |none => den P Φ lv n a (fun e s' => match e with | .normal => ahead lv n kD K b s' | e => K e s') s
 |_, _ => none
def denClo {R : Type} (lv : Live) (n : Nat) (fn : Func) (rv : AV) (args : List AV) (ext : List (List AV)) (K : Out → Option R) : Option R :=
 match fn.body with
 |some (.seq (.region _ ops false) b) =>
  match ops.toList with
  |o :: os =>
   match isRecover o && Nat.ble args.length fn.ntmps with
   |true => (St.mk (setT (args ++ List.replicate (fn.ntmps - args.length) .junk) o.dst rv) (zipExt 1000 ext)).force fun s => regE P Φ [] (o :: os) os s
     (fun s => s.force (fun s => den P Φ lv n b (fin P fn false ext K) s)) (fun v s => fin P fn false ext K (.pan v) s)
   |false => none
  |[] => none
 |_ => none
def leaveU {R : Type} (lvC : Live) (n : Nat) (fn g : Func) (gid : FuncId) (caps : List AV) (K : Out → Option R) (rv : List Nat → AV) (s : St) : Option R :=
 forceN (dedup (AV.slots caps)) fun ks =>
 match cellsOf s.m ks ks with
 |some ext => denClo P Φ lvC n g (rv ks) (AV.passL ks caps) ext (fun out => match out.pan with
  |false => (s.apply none (callEff ks none out)).force fun s => resE P s fn.results.toList fun vs => match canon false vs with
   |some v => match v.loose with
    |true => K ⟨false, v, []⟩
    |false => none
   |none => none
  |true => none)
 |none => none
def leaveE {R : Type} (lvC : Live) (n : Nat) (fn g : Func) (gid : FuncId) (caps : List AV) (K : Out → Option R) (e : Ex) (s : St) : Option R :=
 match e with
 | .exit _ => none
 | .pan v => leaveU P Φ lvC n fn g gid caps K (fun ks => AV.pass ks v) s
 |_ => leaveU P Φ lvC n fn g gid caps K (fun _ => .dv (.val .nilIface)) s
def denFnD {R : Type} (lv : Live) (n : Nat) (fn g : Func) (gid : FuncId) (lvC : Live) (args : List AV) (K : Out → Option R) : Option R :=
 match fn.body with
 |none => none
 |some c =>
  if Nat.ble args.length fn.ntmps && !(AV.hasTokL args) then
   ahead P Φ lv n (fun f caps b s =>
    forceN (dedup (AV.slots s.t)) fun ks => AV.forceL (AV.passL ks caps) fun caps =>
    match Nat.beq f gid && allPl caps, cellsOf s.m ks ks with
    |true, some ext => (St.mk (AV.passL ks s.t) (zipExt 1000 ext)).force fun s => den P Φ lv n b (leaveE P Φ lvC n fn g gid caps K) s
    |_, _ => none) (fin P fn false [] K) c { t := args ++ List.replicate (fn.ntmps - args.length) .junk, m := zipExt 1000 [] }
  else none
def loopFnD {R : Type} (lv : Live) (n : Nat) (fn g : Func) (gid : FuncId) (lvC : Live) (caps : List AV) (K : Out → Option R) (q : Nat) (left : List Nat) (i : Nat) (s : St) : Option R :=
 match fn.body with
 |none => none
 |some c =>
  match behind c with
  |none => none
  |some b =>
   match find P Φ lv n q left b (leaveE P Φ lvC n fn g gid caps K) with
   |some r => loopE q r.tl r.ml r.body i r.K s
   |none => none
end
abbrev Tab := List (FuncId × Live × List Nat)
def Tab.live : Tab → FuncId → Option (Live × List Nat)
 |[], _ => none
 |(g, lv) :: l, f => if Nat.beq g f then some lv else Tab.live l f
def inl (P : Program) (T : Tab) (n : Nat) (Φ : Orc) : Nat → List Nat → Orc
 |0, hs => ⟨Φ.call, hs⟩
 |d + 1, hs => ⟨fun R f args ext k =>
  match Tab.live T f with
  |none => Φ.call R f args ext k
  |some (lv, hs') => match P.funcs[f]? with
   |some fn => denFn P (inl P T n Φ d hs') lv n fn true args ext k
   |none => none, hs⟩
abbrev Spec := ∀ R : Type, FuncId → List AV → List (List AV) → (Out → Option R) → Option R
abbrev Spec1 := ∀ R : Type, List AV → List (List AV) → (Out → Option R) → Option R
def bareLL : List (List AV) → List (List AV)
 |[] => []
 |l :: r => (match topToks l with | [] => AV.bareL l | _ :: _ => l) :: bareLL r
def Spec.none : Spec := fun _ _ _ _ _ => Option.none
def Spec.orc (σ : Spec) (hs : List Nat) : Orc := ⟨fun R f args ext k => σ R f args (bareLL ext) k, hs⟩
def sp (f0 : FuncId) (g : Spec1) (τ : Spec) : Spec := fun R f args ext k => match Nat.beq f f0 with | true => g R args ext k | false => τ R f args ext k
def with_ (P : Program) (σ : Spec) (T : Tab) (n d : Nat) (hs : List Nat) : Orc := inl P T n (σ.orc []) d hs
def big : Nat := 4611686018427387904
end Go.Den
namespace Go.Den
mutual
theorem AV.force_eq {R : Type} : ∀ (a : AV) (k : AV → Option R), AV.force a k = k a
 | .dv d, k => rfl
 | .sl n ks rows r, k => rfl
 | .agg cs, k => by unfold AV.force; rw [AV.forceL_eq]
 | .tup cs, k => by unfold AV.force; rw [AV.forceL_eq]
 | .pl i off, k => rfl
 | .pv ks row off, k => rfl
 | .fn f caps, k => by unfold AV.force; rw [AV.forceL_eq]
 | .ifc t v, k => by unfold AV.force; rw [AV.force_eq]
 | .ms i ks off n c, k => rfl
 | .pa i ks a b, k => rfl
 | .arr ks rows, k => rfl
 | .junk, k => rfl
theorem AV.forceL_eq {R : Type} : ∀ (l : List AV) (k : List AV → Option R), AV.forceL l k = k l
 |[], k => rfl
 |a :: l, k => by unfold AV.forceL; rw [AV.force_eq, AV.forceL_eq]
end
theorem forceM_eq {R : Type} : ∀ (m : Mem) (k : Mem → Option R), forceM m k = k m
 |[], k => rfl
 |(i, cs) :: m, k => by unfold forceM; rw [AV.forceL_eq, forceM_eq]
theorem forceN_eq {R : Type} : ∀ (l : List Nat) (k : List Nat → Option R), forceN l k = k l
 |[], k => rfl
 |a :: l, k => by unfold forceN; rw [forceN_eq]
theorem forceNN_eq {R : Type} : ∀ (l : List (List Nat)) (k : List (List Nat) → Option R), forceNN l k = k l
 |[], k => rfl
 |a :: l, k => by unfold forceNN; rw [forceN_eq, forceNN_eq]
theorem Eff.force_eq {R : Type} (e : Eff) (k : Eff → Option R) : e.force k = k e := by
 cases e with
 |pure r => exact AV.force_eq r _
 |full r p ks wr =>
  refine (AV.force_eq r _).trans ?_
  rw [forceN_eq, forceN_eq, forceM_eq]
theorem El.force_eq {R : Type} (e : El) (k : El → Option R) : e.force k = k e := by
 obtain ⟨o, eff, want, tch, nm, p, ks⟩ := e
 refine (forceN_eq tch _).trans ?_
 rw [forceN_eq, forceN_eq, forceN_eq, Eff.force_eq]
theorem forceEls_eq {R : Type} : ∀ (l : List El) (k : List El → Option R), forceEls l k = k l
 |[], k => rfl
 |a :: l, k => by unfold forceEls; rw [forceEls_eq]
theorem St.force_eq {R : Type} (s : St) (k : St → Option R) : s.force k = k s := by unfold St.force; rw [AV.forceL_eq, forceM_eq]
theorem forceSp_eq {R : Type} : ∀ (l : List (List Nat)) (k : List (List Nat) → Option R), forceSp l k = k l
 |[], k => rfl
 |a :: l, k => by unfold forceSp; rw [forceSp_eq]
theorem befsK_eq {R : Type} : ∀ (l : List Oper) (acc : List (List Nat)) (k : List (List Nat) → Option R), befsK l acc k = k (befs l acc)
 |[], acc, k => rfl
 |o :: l, acc, k => by unfold befsK befs; rw [forceN_eq, forceSp_eq, befsK_eq]
theorem regN_eq {R : Type} (B : List (List Nat)) (acc : List El) (el : El) (s : St) (go : List El → St → Option R) : regN B acc el s go = if okAll B acc.length 0 acc el then go (acc ++ [el]) s else none := by
 unfold regN
 rw [El.force_eq, forceEls_eq, St.force_eq]
abbrev Mm := Nat → Nat → Option Value

mutual
inductive RepD (M : Mm) : DV → Value → Prop
 |val (v : Value) : v.oneCell' = true → RepD M (.val v) v
 |nil (ks : List Kd) : RepD M (.sl true ks []) (.slice none 0 0)
 |sl (ks : List Kd) (rows : Rows) (a : Addr) (c : Nat) : rows.length ≤ c → (rows ≠ [] → a.spot = none) → RowsAt M a.block a.off ks rows →
   RepD M (.sl false ks rows) (.slice (some a) rows.length c)
inductive RowsAt (M : Mm) : Nat → Nat → List Kd → Rows → Prop
 |nil (b o : Nat) (ks : List Kd) : RowsAt M b o ks []
 |cons (b o : Nat) (ks : List Kd) (row : Row) (rows : Rows) : Row.ofKds ks row = true → CellsAt M b o row → RowsAt M b (o + ks.length) ks rows → RowsAt M b o ks (row :: rows)
inductive CellsAt (M : Mm) : Nat → Nat → Row → Prop
 |nil (b o : Nat) : CellsAt M b o []
 |cons (b o : Nat) (d : DV) (v : Value) (r : Row) : M b o = some v → RepD M d v → CellsAt M b (o + 1) r → CellsAt M b o (d :: r)
end

def Sub (M M' : Mm) : Prop := ∀ b o v, M b o = some v → M' b o = some v
theorem Sub.refl (M : Mm) : Sub M M := fun _ _ _ h => h
theorem Sub.trans {M M' M'' : Mm} (h : Sub M M') (h' : Sub M' M'') : Sub M M'' := fun b o v e => h' b o v (h b o v e)

mutual
theorem RepD.mono {M M' : Mm} (h : Sub M M') : ∀ {d v}, RepD M d v → RepD M' d v
 |_, _, .val v h => .val v h
 |_, _, .nil ks => .nil ks
 |_, _, .sl ks rows a c h1 h2 h3 => .sl ks rows a c h1 h2 (RowsAt.mono h h3)
theorem RowsAt.mono {M M' : Mm} (h : Sub M M') : ∀ {b o ks rows}, RowsAt M b o ks rows → RowsAt M' b o ks rows
 |_, _, _, _, .nil b o ks => .nil b o ks
 |_, _, _, _, .cons b o ks row rows h1 h2 h3 => .cons b o ks row rows h1 (CellsAt.mono h h2) (RowsAt.mono h h3)
theorem CellsAt.mono {M M' : Mm} (h : Sub M M') : ∀ {b o r}, CellsAt M b o r → CellsAt M' b o r
 |_, _, _, .nil b o => .nil b o
 |_, _, _, .cons b o d v r h1 h2 h3 => .cons b o d v r (h b o v h1) (RepD.mono h h2) (CellsAt.mono h h3)
end

def ptrV (b off : Nat) : Value := match Nat.beq off mapOff with | true => .map (some b) | false => .pointer (some ⟨b, off, none⟩)
theorem ptrV_ptr {b off : Nat} (h : Nat.beq off mapOff = false) : ptrV b off = .pointer (some ⟨b, off, none⟩) := by unfold ptrV; rw [h]
theorem ptrV_map (b : Nat) : ptrV b mapOff = .map (some b) := by unfold ptrV; rw [show Nat.beq mapOff mapOff = true from Nat.beq_refl _]
structure X where
 M : Mm
 loc : Nat → Option Nat
 tk : Nat → Option (Value × List Kd)   -- a token's slice, and its element's size
 cap : Nat → Nat   -- how many cells a slot has at least
 M0 : Mm           -- what was known at first

def RtOk (x : X) (r : Right) (d : DV) (v : Value) (sz : List Kd) : Prop :=
 match r with
 | .no => True
 | .ex => ∃ a n, v = .slice a n n
 | .tok k => x.tk k = some (v, sz)
 | .old => RepD x.M0 d v

mutual
inductive Rep (x : X) : AV → Value → Prop
 |dv (d : DV) (v : Value) : RepD x.M d v → Rep x (.dv d) v
 |sl (n : Bool) (ks : List Kd) (rows : Rows) (r : Right) (v : Value) : RepD x.M (.sl n ks rows) v → RtOk x r (.sl n ks rows) v ks → Rep x (.sl n ks rows r) v
 |agg (cs : List AV) (vs : List Value) : RepL x cs vs → Rep x (.agg cs) (.agg ⟨vs⟩)
 |tup (cs : List AV) (vs : List Value) : RepL x cs vs → Rep x (.tup cs) (.tuple ⟨vs⟩)
 |pl (k off b : Nat) : x.loc k = some b → Rep x (.pl k off) (ptrV b off)
 |pv (ks : List Kd) (row : Row) (off b o : Nat) : Row.ofKds ks row = true → CellsAt x.M b o row → (isOld off = true → CellsAt x.M0 b o row) → Rep x (.pv ks row off) (.pointer (some ⟨b, o + pvOff off, none⟩))
 |fn (f : FuncId) (cs : List AV) (vs : List Value) : RepL x cs vs → Rep x (.fn f cs) (.func (.func f) #[] ⟨vs⟩)
 |ifc (t : TypeId) (a : AV) (v : Value) : Rep x a v → Rep x (.ifc t a) (.iface t v)
 |ms (k : Nat) (ks : List Kd) (off n c b o c' : Nat) : x.loc k = some b → n ≤ c → (0 < c' → o = off * ks.length) → c ≤ c' ∧ o + c' * ks.length ≤ x.cap k ∧ c' ≤ maxLen → Rep x (.ms k ks off n c) (.slice (some ⟨b, o, none⟩) n c')
 |pa (k : Nat) (ks : List Kd) (i j b : Nat) : x.loc k = some b → Rep x (.pa k ks i j) (.pointer (some ⟨b, i * ks.length + j, none⟩))
 |junk (v : Value) : Rep x .junk v
inductive RepL (x : X) : List AV → List Value → Prop
 |nil : RepL x [] []
 |cons (a : AV) (v : Value) (l : List AV) (vs : List Value) : Rep x a v → RepL x l vs → RepL x (a :: l) (v :: vs)
end

theorem Rep.pl_inv {x : X} {k off : Nat} {v : Value} (h : Rep x (.pl k off) v) : ∃ b, x.loc k = some b ∧ v = ptrV b off := by
 cases h with | pl _ _ b hb => exact ⟨b, hb, rfl⟩
theorem ptrV_inj {b b' off : Nat} (h : ptrV b off = ptrV b' off) : b = b' := by
 unfold ptrV at h
 split at h <;> cases h <;> rfl
structure Ext (x x' : X) (p ks : List Nat) : Prop where
 M : Sub x.M x'.M
 loc : ∀ k b, mem k p = false → x.loc k = some b → x'.loc k = some b
 tk : ∀ k z, mem k ks = false → x.tk k = some z → x'.tk k = some z
 cap : ∀ k, mem k p = false → x'.cap k = x.cap k
 M0 : x'.M0 = x.M0

theorem Ext.refl (x : X) (p ks : List Nat) : Ext x x p ks := ⟨Sub.refl _, fun _ _ _ h => h, fun _ _ _ h => h, fun _ _ => rfl, rfl⟩
theorem mem_nil (k : Nat) : mem k [] = false := rfl

theorem RtOk.scrub {x x' : X} {p ks : List Nat} (h : Ext x x' p ks) {r d v sz} (hr : RtOk x r d v sz) : RtOk x' (r.scrub ks) d v sz := by
 cases r with
 |no => trivial
 |ex => exact hr
 |tok k =>
  show RtOk x' (if mem k ks = true then Right.no else Right.tok k) d v sz
  by_cases hk : mem k ks = true
  ·rw [if_pos hk]; trivial
  ·rw [if_neg hk]; exact h.tk k _ (by simpa using hk) hr
 |old => show RepD x'.M0 d v; rw [h.M0]; exact hr

mutual
theorem Rep.scrub {x x' : X} {p ks : List Nat} (h : Ext x x' p ks) : ∀ {a v}, Rep x a v → Rep x' (AV.scrub p ks a) v
 |_, _, .dv d v hd => by unfold AV.scrub; exact .dv d v (hd.mono h.M)
 |_, _, .sl n kd rows r v hd hr => by unfold AV.scrub; exact .sl n kd rows _ v (hd.mono h.M) (hr.scrub h)
 |_, _, .agg cs vs hl => by unfold AV.scrub; exact .agg _ vs (RepL.scrub h hl)
 |_, _, .tup cs vs hl => by unfold AV.scrub; exact .tup _ vs (RepL.scrub h hl)
 |_, _, .pl k off b hk => by
  unfold AV.scrub
  by_cases hm : mem k p = true
  ·rw [if_pos hm]; exact .junk _
  ·rw [if_neg hm]; exact .pl k off b (h.loc k b (by simpa using hm) hk)
 |_, _, .pv kd row off b o h1 h2 h3 => by unfold AV.scrub; exact .pv kd row off b o h1 (h2.mono h.M) (fun ho => by rw [h.M0]; exact h3 ho)
 |_, _, .fn f cs vs hl => by unfold AV.scrub; exact .fn f _ vs (RepL.scrub h hl)
 |_, _, .ifc t a v ha => by unfold AV.scrub; exact .ifc t _ v (Rep.scrub h ha)
 |_, _, .ms k kd off n c b o c' hk g1 g2 g3 => by
  unfold AV.scrub
  by_cases hm : mem k p = true
  ·rw [if_pos hm]; exact .junk _
  ·rw [if_neg hm]; exact .ms k kd off n c b o c' (h.loc k b (by simpa using hm) hk) g1 g2 (by rw [h.cap k (by simpa using hm)]; exact g3)
 |_, _, .pa k kd i j b hk => by
  unfold AV.scrub
  by_cases hm : mem k p = true
  ·rw [if_pos hm]; exact .junk _
  ·rw [if_neg hm]; exact .pa k kd i j b (h.loc k b (by simpa using hm) hk)
 |_, _, .junk v => by unfold AV.scrub; exact .junk v
theorem RepL.scrub {x x' : X} {p ks : List Nat} (h : Ext x x' p ks) : ∀ {l vs}, RepL x l vs → RepL x' (AV.scrubL p ks l) vs
 |_, _, .nil => by unfold AV.scrubL; exact .nil
 |_, _, .cons a v l vs ha hl => by unfold AV.scrubL; exact .cons _ v _ vs (Rep.scrub h ha) (RepL.scrub h hl)
end

mutual
theorem AV.scrub_nil : ∀ a, AV.scrub [] [] a = a
 | .dv d => rfl
 | .sl n kd rows r => by unfold AV.scrub; cases r <;> rfl
 | .agg cs => by unfold AV.scrub; rw [AV.scrubL_nil cs]
 | .tup cs => by unfold AV.scrub; rw [AV.scrubL_nil cs]
 | .pl k off => rfl
 | .pv kd row off => rfl
 | .fn f cs => by unfold AV.scrub; rw [AV.scrubL_nil cs]
 | .ifc t a => by unfold AV.scrub; rw [AV.scrub_nil a]
 | .ms .. => rfl
 | .pa .. => rfl
 | .arr .. => rfl
 | .junk => rfl
theorem AV.scrubL_nil : ∀ l, AV.scrubL [] [] l = l
 |[] => rfl
 |a :: l => by unfold AV.scrubL; rw [AV.scrub_nil a, AV.scrubL_nil l]
end
theorem Rep.mono {x x' : X} (h : Ext x x' [] []) {a v} (r : Rep x a v) : Rep x' a v := by
 have := r.scrub h; rwa [AV.scrub_nil] at this
theorem RepL.mono {x x' : X} (h : Ext x x' [] []) {a v} (r : RepL x a v) : RepL x' a v := by
 have := r.scrub h; rwa [AV.scrubL_nil] at this

theorem Ext.trans {x x' x'' : X} {p ks} (h : Ext x x' p ks) (h' : Ext x' x'' [] []) : Ext x x'' p ks :=
 ⟨h.M.trans h'.M, fun k b hk e => h'.loc k b rfl (h.loc k b hk e), fun k z hk e => h'.tk k z rfl (h.tk k z hk e), fun k hk => (h'.cap k rfl).trans (h.cap k hk), h'.M0.trans h.M0⟩

theorem RepL.length {x : X} : ∀ {l vs}, RepL x l vs → l.length = vs.length
 |_, _, .nil => rfl
 |_, _, .cons a v l vs _ hl => by simp [RepL.length hl]
theorem RepL.get {x : X} : ∀ {l : List AV} {vs : List Value}, RepL x l vs → ∀ {i : Nat} {a : AV}, l[i]? = some a → ∃ v, vs[i]? = some v ∧ Rep x a v
 |_, _, .nil, i, a, h => by simp at h
 |_, _, .cons a v l vs ha hl, 0, b, h => by simp at h; subst h; exact ⟨v, rfl, ha⟩
 |_, _, .cons a v l vs ha hl, i + 1, b, h => by simp at h; simpa using RepL.get hl h
theorem RepL.set {x : X} : ∀ {l vs}, RepL x l vs → ∀ (i : Nat) {a v}, Rep x a v → RepL x (l.set i a) (vs.set i v)
 |_, _, .nil, i, a, v, h => by simpa using RepL.nil
 |_, _, .cons a v l vs ha hl, 0, b, u, h => by simpa using RepL.cons _ _ _ _ h hl
 |_, _, .cons a v l vs ha hl, i + 1, b, u, h => by simpa using RepL.cons _ _ _ _ ha (RepL.set hl i h)
theorem RepL.append {x : X} : ∀ {l vs}, RepL x l vs → ∀ {l' vs'}, RepL x l' vs' → RepL x (l ++ l') (vs ++ vs')
 |_, _, .nil, _, _, h => h
 |_, _, .cons a v l vs ha hl, _, _, h => .cons _ _ _ _ ha (RepL.append hl h)
theorem RepL.take {x : X} : ∀ {l vs}, RepL x l vs → ∀ n, RepL x (l.take n) (vs.take n)
 |_, _, .nil, n => by simpa using RepL.nil
 |_, _, .cons a v l vs ha hl, 0 => by simpa using RepL.nil
 |_, _, .cons a v l vs ha hl, n + 1 => by simpa using RepL.cons _ _ _ _ ha (RepL.take hl n)
theorem RepL.drop {x : X} : ∀ {l vs}, RepL x l vs → ∀ n, RepL x (l.drop n) (vs.drop n)
 |_, _, .nil, n => by simpa using RepL.nil
 |_, _, .cons a v l vs ha hl, 0 => by simpa using RepL.cons _ _ _ _ ha hl
 |_, _, .cons a v l vs ha hl, n + 1 => by simpa using RepL.drop hl n
theorem RepL.junks (x : X) : ∀ n v, RepL x (List.replicate n .junk) (List.replicate n v)
 |0, _ => .nil
 |n + 1, v => .cons _ _ _ _ (.junk v) (RepL.junks x n v)

theorem beq_eq {a b : Nat} : Nat.beq a b = true ↔ a = b := by simp [Nat.beq_eq]
theorem lookup_write (m : Mem) (k : Nat) (cs : List AV) (j : Nat) : lookup (write m k cs) j = if j = k then some cs else lookup m j := by
 induction m with
 |nil => simp only [write, lookup, beq_eq]; by_cases h : k = j <;> simp [h, eq_comm]
 |cons e m ih =>
  obtain ⟨i, ds⟩ := e
  simp only [write, beq_eq]
  by_cases hi : i = k
  ·subst hi
   simp only [if_true, lookup, beq_eq]
   by_cases h : i = j <;> simp [h, eq_comm]
   intro hh; exact absurd hh.symm h
  ·simp only [hi, if_false, lookup, beq_eq, ih]
   by_cases h : i = j
   ·subst h; simp [hi]
   ·simp [h]
theorem lookup_drop (m : Mem) (k j : Nat) : lookup (drop m k) j = if j = k then none else lookup m j := by
 induction m with
 |nil => simp [drop, lookup]
 |cons e m ih =>
  obtain ⟨i, ds⟩ := e
  simp only [drop, beq_eq]
  by_cases hi : i = k
  ·subst hi
   simp only [if_true, ih, lookup, beq_eq]
   by_cases h : j = i
   ·simp [h]
   ·simp [h, eq_comm]
  ·simp only [hi, if_false, lookup, beq_eq, ih]
   by_cases h : i = j
   ·subst h; simp [hi]
   ·simp [h]
theorem mem_iff {k : Nat} {l : List Nat} : mem k l = true ↔ k ∈ l := by
 induction l with
 |nil => simp [mem]
 |cons a l ih => simp only [mem, Bool.or_eq_true, beq_eq, ih, List.mem_cons]; constructor <;> (rintro (h | h) <;> simp [h])
theorem lookup_dropAll (p : List Nat) : ∀ (m : Mem) (j : Nat), lookup (dropAll m p) j = if mem j p then none else lookup m j := by
 induction p with
 |nil => intro m j; simp [dropAll, mem]
 |cons k p ih =>
  intro m j
  simp only [dropAll, ih, lookup_drop, mem]
  by_cases h1 : mem j p = true
  ·simp [h1]
  ·by_cases h2 : j = k
   ·subst h2; simp
   ·have : Nat.beq k j = false := by
     cases hb : Nat.beq k j with
     |false => rfl
     |true => exact absurd (beq_eq.1 hb).symm h2
    simp [h1, h2, this]
theorem lookup_scrubM (p ks : List Nat) (m : Mem) (j : Nat) : lookup (scrubM p ks m) j = (lookup m j).map (AV.scrubL p ks) := by
 induction m with
 |nil => rfl
 |cons e m ih =>
  obtain ⟨i, ds⟩ := e
  simp only [scrubM, lookup, beq_eq, ih]
  by_cases h : i = j <;> simp [h]

mutual
theorem Kd.same_eq : ∀ {k l : Kd}, Kd.same k l = true → k = l
 | .b, l, h => by cases l <;> simp [Kd.same] at h; rfl
 | .i k, l, h => by cases l <;> simp [Kd.same] at h; rw [h]
 | .s, l, h => by cases l <;> simp [Kd.same] at h; rfl
 | .sl a, l, h => by
  cases l with
  |sl c => simp only [Kd.same] at h; rw [Kd.sameL_eq h]
  |_ => simp [Kd.same] at h
 | .o, l, h => by cases l <;> simp [Kd.same] at h; rfl
theorem Kd.sameL_eq : ∀ {a c : List Kd}, Kd.sameL a c = true → a = c
 |[], c, h => by cases c <;> simp [Kd.sameL] at h; rfl
 |x :: a, c, h => by
  cases c with
  |nil => simp [Kd.sameL] at h
  |cons y c => simp only [Kd.sameL, Bool.and_eq_true] at h; rw [Kd.same_eq h.1, Kd.sameL_eq h.2]
end

theorem Row.ofKds_length : ∀ {ks : List Kd} {r : Row}, Row.ofKds ks r = true → r.length = ks.length
 |[], [], _ => rfl
 |k :: ks, d :: r, h => by simp only [Row.ofKds, Bool.and_eq_true] at h; simp [Row.ofKds_length h.2]
 |[], _ :: _, h => by simp [Row.ofKds] at h
 |_ :: _, [], h => by simp [Row.ofKds] at h
theorem Row.ofKds_get : ∀ {ks : List Kd} {r : Row}, Row.ofKds ks r = true → ∀ {j : Nat} {k : Kd}, ks[j]? = some k → ∃ d, r[j]? = some d ∧ DV.ofKd k d = true
 |[], [], _, j, k, h => by simp at h
 |k :: ks, d :: r, h, 0, _, hk => by simp at hk; subst hk; simp only [Row.ofKds, Bool.and_eq_true] at h; exact ⟨d, rfl, h.1⟩
 |k :: ks, d :: r, h, j + 1, _, hk => by simp at hk; simp only [Row.ofKds, Bool.and_eq_true] at h; simpa using Row.ofKds_get h.2 hk
 |[], _ :: _, h, _, _, _ => by simp [Row.ofKds] at h
 |_ :: _, [], h, _, _, _ => by simp [Row.ofKds] at h
theorem CellsAt.get {M : Mm} : ∀ {b o : Nat} {r : Row}, CellsAt M b o r → ∀ {j : Nat} {d : DV}, r[j]? = some d → ∃ v, M b (o + j) = some v ∧ RepD M d v
 |_, _, _, .nil b o, j, d, h => by simp at h
 |_, _, _, .cons b o d v r h1 h2 h3, 0, _, h => by simp at h; subst h; exact ⟨v, h1, h2⟩
 |_, _, _, .cons b o d v r h1 h2 h3, j + 1, _, h => by
  simp at h
  obtain ⟨u, hu, hr⟩ := CellsAt.get h3 h
  exact ⟨u, by rw [← hu]; congr 1; omega, hr⟩
theorem Rep.cell {x : X} {ks : List Kd} {r : Row} {b o j : Nat} {k : Kd} (h : Row.ofKds ks r = true) (hc : CellsAt x.M b o r) (hk : ks[j]? = some k) :
  ∃ v, x.M b (o + j) = some v ∧ Rep x (Row.cell k r j) v := by
 obtain ⟨d, hd, ht⟩ := Row.ofKds_get h hk
 obtain ⟨v, hv, hr⟩ := CellsAt.get hc hd
 refine ⟨v, hv, ?_⟩
 have hat : Row.at r j = d := by simp [Row.at, List.getD, hd]
 cases k with
 |b => cases d with
  |val u => cases u <;> simp [DV.ofKd] at ht; simp only [Row.cell, Row.B, hat, DV.toB]; exact .dv _ _ hr
  |sl => simp [DV.ofKd] at ht
 |i k => cases d with
  |val u => cases u <;> simp [DV.ofKd] at ht; subst ht; simp only [Row.cell, Row.I, hat, DV.toI]; exact .dv _ _ hr
  |sl => simp [DV.ofKd] at ht
 |s => cases d with
  |val u => cases u <;> simp [DV.ofKd] at ht; simp only [Row.cell, Row.S, hat, DV.toS]; exact .dv _ _ hr
  |sl => simp [DV.ofKd] at ht
 |sl ks => cases d with
  |val u => simp [DV.ofKd] at ht
  |sl n ls rows => simp only [DV.ofKd] at ht; obtain rfl := Kd.sameL_eq ht; simp only [Row.cell, Row.N, Row.R, hat, DV.toNl, DV.toRows]; exact .sl _ _ _ _ _ hr trivial
 |o => cases d with
  |val u => simp only [Row.cell, Row.V, hat, DV.toV]; exact .dv _ _ hr
  |sl => simp [DV.ofKd] at ht
theorem RepL.cells {x : X} {ks : List Kd} {r : Row} {b o : Nat} (h : Row.ofKds ks r = true) (hc : CellsAt x.M b o r) : ∀ (l : List Kd) (j : Nat), (∀ i, i < l.length → ks[j + i]? = l[i]?) →
  ∃ vs, vs.length = l.length ∧ RepL x (Row.cells r l j) vs ∧ ∀ i v, vs[i]? = some v → x.M b (o + j + i) = some v
 |[], j, _ => ⟨[], rfl, .nil, by simp⟩
 |k :: l, j, hl => by
  obtain ⟨v, hv, hr⟩ := Rep.cell h hc (j := j) (k := k) (by simpa using hl 0 (by simp))
  obtain ⟨vs, h1, h2, h3⟩ := RepL.cells h hc l (j + 1) (fun i hi => by have := hl (i + 1) (by simpa using hi); simp only [List.getElem?_cons_succ] at this; rw [← this]; congr 1; omega)
  refine ⟨v :: vs, by simp [h1], .cons _ _ _ _ hr h2, ?_⟩
  intro i u hu
  cases i with
  |zero => simp at hu; subst hu; simpa using hv
  |succ i => simp at hu; rw [← h3 i u hu]; congr 1; omega

theorem CellsAt.copy {M M' : Mm} (hs : Sub M M') : ∀ {b o : Nat} {r : Row}, CellsAt M b o r → ∀ {b' o' : Nat}, (∀ j v, j < r.length → M b (o + j) = some v → M' b' (o' + j) = some v) → CellsAt M' b' o' r
 |_, _, _, .nil b o, b', o', _ => .nil b' o'
 |_, _, _, .cons b o d v r h1 h2 h3, b', o', h => .cons b' o' d v r (by simpa using h 0 v (by simp) (by simpa using h1)) (h2.mono hs)
   (CellsAt.copy hs h3 fun j u hj hu => by have := h (j + 1) u (by simpa using hj) (by rw [← hu]; congr 1; omega); rw [← this]; congr 1; omega)
theorem RowsAt.copy {M M' : Mm} (hs : Sub M M') : ∀ {b o : Nat} {ks : List Kd} {rows : Rows}, RowsAt M b o ks rows → ∀ {b' o' : Nat}, (∀ j v, j < rows.length * ks.length → M b (o + j) = some v → M' b' (o' + j) = some v) → RowsAt M' b' o' ks rows
 |_, _, _, _, .nil b o ks, b', o', _ => .nil b' o' ks
 |_, _, _, _, .cons b o ks row rows h1 h2 h3, b', o', h => by
  have hl := Row.ofKds_length h1
  refine .cons b' o' ks row rows h1 (CellsAt.copy hs h2 fun j v hj hv => h j v ?_ hv) (RowsAt.copy hs h3 fun j v hj hv => ?_)
  ·rw [hl] at hj; simp only [List.length_cons, Nat.add_mul, Nat.one_mul]; omega
  ·have := h (ks.length + j) v (by simp only [List.length_cons, Nat.add_mul, Nat.one_mul]; omega) (by rw [← hv]; congr 1; omega)
   rw [← this]; congr 1; omega
theorem RowsAt.append {M : Mm} : ∀ {b o : Nat} {ks : List Kd} {rows : Rows}, RowsAt M b o ks rows → ∀ {rows' : Rows}, RowsAt M b (o + rows.length * ks.length) ks rows' → RowsAt M b o ks (rows ++ rows')
 |_, _, _, _, .nil b o ks, rows', h => by simpa using h
 |_, _, _, _, .cons b o ks row rows h1 h2 h3, rows', h => .cons b o ks row _ h1 h2 (RowsAt.append h3 (by
   have e : o + ks.length + rows.length * ks.length = o + (row :: rows).length * ks.length := by simp only [List.length_cons, Nat.add_mul, Nat.one_mul]; omega
   rw [e]; exact h))
theorem RepD.one {M : Mm} : ∀ {d : DV} {v : Value}, RepD M d v → v.oneCell' = true
 |_, _, .val v h => h
 |_, _, .nil ks => rfl
 |_, _, .sl ks rows a c _ _ _ => rfl
theorem CellsAt.values {M : Mm} : ∀ {b o : Nat} {row : Row}, CellsAt M b o row → ∃ us : List Value, us.length = row.length ∧ ∀ j v, us[j]? = some v → M b (o + j) = some v ∧ v.oneCell' = true
 |_, _, _, .nil b o => ⟨[], rfl, by simp⟩
 |_, _, _, .cons b o d v r h1 h2 h3 => by
  obtain ⟨us, hl, hu⟩ := CellsAt.values h3
  refine ⟨v :: us, by simp [hl], ?_⟩
  intro j u hj
  cases j with
  |zero => simp at hj; subst hj; exact ⟨by simpa using h1, RepD.one h2⟩
  |succ j => simp at hj; obtain ⟨h5, h6⟩ := hu j u hj; exact ⟨by rw [← h5]; congr 1; omega, h6⟩
theorem RowsAt.values {M : Mm} : ∀ {b o : Nat} {ks : List Kd} {rows : Rows}, RowsAt M b o ks rows → ∃ vs : List Value, vs.length = rows.length * ks.length ∧ (∀ j v, vs[j]? = some v → M b (o + j) = some v ∧ v.oneCell' = true)
 |_, _, _, _, .nil b o ks => ⟨[], by simp, by simp⟩
 |_, _, _, _, .cons b o ks row rows h1 h2 h3 => by
  obtain ⟨vs, hl, hv⟩ := RowsAt.values h3
  obtain ⟨us, hl2, hu⟩ : ∃ us : List Value, us.length = row.length ∧ ∀ j v, us[j]? = some v → M b (o + j) = some v ∧ v.oneCell' = true := CellsAt.values h2
  have hr := Row.ofKds_length h1
  refine ⟨us ++ vs, by simp [hl, hl2, hr, Nat.add_mul, Nat.add_comm], ?_⟩
  intro j v hj
  by_cases hlt : j < us.length
  ·rw [List.getElem?_append_left hlt] at hj; exact hu j v hj
  ·rw [List.getElem?_append_right (by omega)] at hj
   obtain ⟨h5, h6⟩ := hv _ v hj
   refine ⟨?_, h6⟩
   rw [← h5]; congr 1; omega
theorem RowsAt.get {M : Mm} : ∀ {b o : Nat} {ks : List Kd} {rows : Rows}, RowsAt M b o ks rows → ∀ {i : Nat}, i < rows.length → Row.ofKds ks (rows.getD i []) = true ∧ CellsAt M b (o + i * ks.length) (rows.getD i [])
 |_, _, _, _, .nil b o ks, i, h => by simp at h
 |_, _, _, _, .cons b o ks row rows h1 h2 h3, 0, h => by simpa using ⟨h1, h2⟩
 |_, _, _, _, .cons b o ks row rows h1 h2 h3, i + 1, h => by
  obtain ⟨h5, h6⟩ := RowsAt.get h3 (i := i) (by simpa using h)
  refine ⟨by simpa using h5, ?_⟩
  have e : o + (i + 1) * ks.length = o + ks.length + i * ks.length := by rw [Nat.add_mul, Nat.one_mul]; omega
  rw [e]; simpa using h6
theorem RowsAt.drop {M : Mm} : ∀ {b o : Nat} {ks : List Kd} {rows : Rows}, RowsAt M b o ks rows → ∀ n, n ≤ rows.length → RowsAt M b (o + n * ks.length) ks (rows.drop n)
 |_, _, _, _, .nil b o ks, n, h => by simpa using RowsAt.nil b _ ks
 |_, _, _, _, .cons b o ks row rows h1 h2 h3, 0, h => by simpa using RowsAt.cons b o ks row rows h1 h2 h3
 |_, _, _, _, .cons b o ks row rows h1 h2 h3, n + 1, h => by
  have := RowsAt.drop h3 n (by simpa using h)
  have e : o + (n + 1) * ks.length = o + ks.length + n * ks.length := by rw [Nat.add_mul, Nat.one_mul]; omega
  rw [e]; simpa using this
theorem RowsAt.take {M : Mm} : ∀ {b o : Nat} {ks : List Kd} {rows : Rows}, RowsAt M b o ks rows → ∀ n, RowsAt M b o ks (rows.take n)
 |_, _, _, _, .nil b o ks, n => by simpa using RowsAt.nil b _ ks
 |_, _, _, _, .cons b o ks row rows h1 h2 h3, 0 => by simpa using RowsAt.nil b o ks
 |_, _, _, _, .cons b o ks row rows h1 h2 h3, n + 1 => by simpa using RowsAt.cons b o ks row _ h1 h2 (RowsAt.take h3 n)

inductive CellsV (M : Mm) : Row → List Value → Prop
 |nil : CellsV M [] []
 |cons (d : DV) (v : Value) (r : Row) (vs : List Value) : RepD M d v → CellsV M r vs → CellsV M (d :: r) (v :: vs)
theorem CellsV.append {M : Mm} : ∀ {r : Row} {vs : List Value}, CellsV M r vs → ∀ {r' : Row} {vs' : List Value}, CellsV M r' vs' → CellsV M (r ++ r') (vs ++ vs')
 |_, _, .nil, _, _, h => h
 |_, _, .cons d v r vs h1 h2, _, _, h => .cons d v _ _ h1 (h2.append h)
theorem CellsV.length {M : Mm} : ∀ {r : Row} {vs : List Value}, CellsV M r vs → r.length = vs.length
 |_, _, .nil => rfl
 |_, _, .cons d v r vs h1 h2 => by simp [h2.length]
theorem CellsV.mono {M M' : Mm} (h : Sub M M') : ∀ {r : Row} {vs : List Value}, CellsV M r vs → CellsV M' r vs
 |_, _, .nil => .nil
 |_, _, .cons d v r vs h1 h2 => .cons d v r vs (h1.mono h) (h2.mono h)
theorem CellsV.get {M : Mm} : ∀ {r : Row} {vs : List Value}, CellsV M r vs → ∀ {j : Nat} {d : DV}, r[j]? = some d → ∃ v, vs[j]? = some v ∧ RepD M d v
 |_, _, .nil, j, d, h => by simp at h
 |_, _, .cons d v r vs h1 h2, 0, d', h => by simp at h; subst h; exact ⟨v, rfl, h1⟩
 |_, _, .cons d v r vs h1 h2, j + 1, d', h => by simpa using h2.get (j := j) (by simpa using h)
theorem CellsV.take {M : Mm} : ∀ {r : Row} {vs : List Value}, CellsV M r vs → ∀ n, CellsV M (r.take n) (vs.take n)
 |_, _, .nil, n => by simpa using CellsV.nil
 |_, _, .cons d v r vs h1 h2, 0 => by simpa using CellsV.nil
 |_, _, .cons d v r vs h1 h2, n + 1 => by simpa using CellsV.cons d v _ _ h1 (h2.take n)
theorem CellsV.drop {M : Mm} : ∀ {r : Row} {vs : List Value}, CellsV M r vs → ∀ n, CellsV M (r.drop n) (vs.drop n)
 |_, _, .nil, n => by simpa using CellsV.nil
 |_, _, .cons d v r vs h1 h2, 0 => .cons d v r vs h1 h2
 |_, _, .cons d v r vs h1 h2, n + 1 => by simpa using h2.drop n
inductive ArrV (M : Mm) (ks : List Kd) : Rows → List Value → Prop
 |nil (l : List Value) : ArrV M ks [] l
 |cons (row : Row) (vs : List Value) (rows : Rows) (l : List Value) : Row.ofKds ks row = true → CellsV M row vs → ArrV M ks rows l → ArrV M ks (row :: rows) (vs ++ l)
theorem ArrV.mono {M M' : Mm} (h : Sub M M') {ks : List Kd} : ∀ {rows : Rows} {l : List Value}, ArrV M ks rows l → ArrV M' ks rows l
 |_, _, .nil l => .nil l
 |_, _, .cons row vs rows l h1 h2 h3 => .cons row vs rows l h1 (h2.mono h) (h3.mono h)
theorem ArrV.length {M : Mm} {ks : List Kd} : ∀ {rows : Rows} {l : List Value}, ArrV M ks rows l → rows.length * ks.length ≤ l.length
 |_, _, .nil l => by simp
 |_, _, .cons row vs rows l h1 h2 h3 => by
  have := h2.length
  have := Row.ofKds_length h1
  have := h3.length
  simp only [List.length_append, List.length_cons, Nat.add_mul]; omega
theorem ArrV.split {M : Mm} {ks : List Kd} : ∀ {rows : Rows} {l : List Value}, ArrV M ks rows l → ∀ {i : Nat}, i < rows.length →
  ∃ l1 vs l2, l = l1 ++ vs ++ l2 ∧ l1.length = i * ks.length ∧ Row.ofKds ks (rows.getD i []) = true ∧ CellsV M (rows.getD i []) vs ∧
   ∀ row' vs', Row.ofKds ks row' = true → CellsV M row' vs' → ArrV M ks (rows.set i row') (l1 ++ vs' ++ l2)
 |_, _, .nil _, i, h => by simp at h
 |_, _, .cons row vs rows l h1 h2 h3, 0, h => ⟨[], vs, l, by simp, by simp, by simpa using h1, by simpa using h2, fun row' vs' g1 g2 => by simpa using ArrV.cons row' vs' rows l g1 g2 h3⟩
 |_, _, .cons row vs rows l h1 h2 h3, i + 1, h => by
  obtain ⟨l1, us, l2, g1, g2, g3, g4, g5⟩ := h3.split (i := i) (by simpa using h)
  refine ⟨vs ++ l1, us, l2, by rw [g1]; simp, ?_, by simpa using g3, by simpa using g4, fun row' vs' k1 k2 => ?_⟩
  ·have := h2.length
   have := Row.ofKds_length h1
   rw [List.length_append, g2, Nat.add_mul]; omega
  ·have := ArrV.cons row vs _ _ h1 h2 (g5 row' vs' k1 k2)
   simpa using this
def cellD (k : Kd) (d : DV) : AV := Row.cell k [d] 0
theorem cell_eq (k : Kd) (r : Row) (j : Nat) : Row.cell k r j = cellD k (Row.at r j) := by cases k <;> rfl
theorem rep_cellD {M : Mm} {loc : Nat → Option Nat} {tk : Nat → Option (Value × List Kd)} {cap : Nat → Nat} {M0 : Mm} {k : Kd} {d : DV} {v : Value} (h : DV.ofKd k d = true) (hr : RepD M d v) : Rep ⟨M, loc, tk, cap, M0⟩ (cellD k d) v := by
 cases k with
 |b => cases d with
  |val u => cases u <;> simp [DV.ofKd] at h; exact .dv _ v hr
  |sl => simp [DV.ofKd] at h
 |i k => cases d with
  |val u => cases u <;> simp [DV.ofKd] at h; subst h; exact .dv _ v hr
  |sl => simp [DV.ofKd] at h
 |s => cases d with
  |val u => cases u <;> simp [DV.ofKd] at h; exact .dv _ v hr
  |sl => simp [DV.ofKd] at h
 |sl ks => cases d with
  |val u => simp [DV.ofKd] at h
  |sl nl ls rows =>
   simp only [DV.ofKd] at h
   have := Kd.sameL_eq h
   subst this
   exact .sl nl ks rows .no v hr trivial
 |o => cases d with
  |val u => exact .dv _ v hr
  |sl => simp [DV.ofKd] at h
theorem rep_at {x : X} {ks : List Kd} {r : Row} {vs : List Value} {j : Nat} {k : Kd} (hc : CellsV x.M r vs) (h : Row.ofKds ks r = true) (hk : ks[j]? = some k) : ∃ v, vs[j]? = some v ∧ Rep x (Row.cell k r j) v := by
 obtain ⟨d, hd, ho⟩ := Row.ofKds_get h hk
 obtain ⟨v, hv, hr⟩ := hc.get hd
 refine ⟨v, hv, ?_⟩
 rw [cell_eq, show Row.at r j = d by simp [Row.at, hd]]
 exact rep_cellD (loc := x.loc) (tk := x.tk) (cap := x.cap) (M0 := x.M0) ho hr
theorem rep_cells_from {x : X} {ks : List Kd} {r : Row} {vs : List Value} (hc : CellsV x.M r vs) (h : Row.ofKds ks r = true) : ∀ (l : List Kd) (q : Nat), (∀ i, i < l.length → ks[q + i]? = l[i]?) → RepL x (Row.cells r l q) ((vs.drop q).take l.length)
 |[], q, _ => by simpa [Row.cells] using RepL.nil
 |k :: l, q, hl => by
  obtain ⟨v, hv, hr⟩ := rep_at hc h (j := q) (k := k) (by simpa using hl 0 (by simp))
  have := rep_cells_from hc h l (q + 1) fun i hi => by have := hl (i + 1) (by simp; omega); simp only [List.getElem?_cons_succ] at this; rw [← this]; congr 1; omega
  have e1 : (vs.drop q).take (l.length + 1) = v :: (vs.drop (q + 1)).take l.length := by
   have hlt := (List.getElem?_eq_some_iff.1 hv).1
   have hve := (List.getElem?_eq_some_iff.1 hv).2
   rw [List.drop_eq_getElem_cons hlt, List.take_succ_cons, hve]
  simp only [Row.cells, List.length_cons, e1]
  exact .cons _ _ _ _ hr this

def encE (e : MapEntry) : List Value := [e.key, e.val, .int .i64 e.born]
def entOf : List Value → List MapEntry
 |k :: v :: .int _ n :: l => ⟨k, v, n.toNat⟩ :: entOf l
 |_ => []
theorem entOf_enc : ∀ es : List MapEntry, entOf (es.flatMap encE) = es
 |[] => rfl
 |e :: es => by
  show ⟨e.key, e.val, (e.born : Int).toNat⟩ :: entOf (es.flatMap encE) = _
  rw [entOf_enc es, Int.toNat_natCast]
def objOf (cs : List AV) (arr : Array Value) (ty : TypeId) : Obj := match isMp cs with | true => .map ⟨entOf arr.toList⟩ ty | false => .cells arr ty (0, 0)
theorem objOf_cells {cs : List AV} (h : isMp cs = false) (arr : Array Value) (ty : TypeId) : objOf cs arr ty = .cells arr ty (0, 0) := by unfold objOf; rw [h]
theorem objOf_congr {cs cs' : List AV} (h : isMp cs = isMp cs') (arr : Array Value) (ty : TypeId) : objOf cs arr ty = objOf cs' arr ty := by unfold objOf; rw [h]
def kvOf (ag : Bool) (r : Row) : Value × Value := (Row.V r 0, match ag with | true => .agg ⟨r.tail.map DV.toV⟩ | false => Row.V r 1)
def flatRow (r : Row) : Prop := ∀ d ∈ r, ∃ v, d = .val v ∧ v.oneCell' = true
def MapV (ag : Bool) (ks : List Kd) (rows : Rows) (l : List Value) : Prop :=
 (entOf l).map (fun e => (e.key, e.val)) = rows.map (kvOf ag) ∧ (∀ r ∈ rows, Row.ofKds ks r = true ∧ flatRow r) ∧ flatKds ks = true
def Cont (x : X) (cs : List AV) (l : List Value) : Prop := RepL x cs l ∨ (∃ ks rows, cs = [.arr ks rows] ∧ ArrV x.M ks rows l) ∨ ∃ ag ks rows, cs = [mpTag ag, .arr ks rows] ∧ MapV ag ks rows l
theorem isMp_tag (ag : Bool) (ks : List Kd) (rows : Rows) : isMp [mpTag ag, .arr ks rows] = true := by cases ag <;> rfl
theorem isMp_eq {cs : List AV} (h : isMp cs = true) : ∃ ag ks rows, cs = [mpTag ag, .arr ks rows] := by
 unfold isMp at h
 split at h
 ·exact ⟨false, _, _, rfl⟩
 ·exact ⟨true, _, _, rfl⟩
 ·cases h
theorem RepL.notMp {x : X} {cs : List AV} {l : List Value} (h : RepL x cs l) : isMp cs = false := by
 cases hm : isMp cs with
 |false => rfl
 |true =>
  obtain ⟨ag, ks, rows, rfl⟩ := isMp_eq hm
  cases h with | cons _ _ _ _ _ h => cases h with | cons _ _ _ _ h _ => cases h
theorem Cont.inr_arr {x : X} {ks : List Kd} {rows : Rows} {l : List Value} (h : ArrV x.M ks rows l) : Cont x [.arr ks rows] l := .inr (.inl ⟨ks, rows, rfl, h⟩)
theorem scrub_tag (p ks : List Nat) (ag : Bool) (kd : List Kd) (rows : Rows) : AV.scrubL p ks [mpTag ag, .arr kd rows] = [mpTag ag, .arr kd rows] := by cases ag <;> rfl
theorem Cont.scrub {x x' : X} {p ks : List Nat} (h : Ext x x' p ks) {cs : List AV} {l : List Value} (hc : Cont x cs l) : Cont x' (AV.scrubL p ks cs) l := by
 rcases hc with hc | ⟨kd, rows, rfl, hc⟩ | ⟨ag, kd, rows, rfl, hc⟩
 ·exact .inl (hc.scrub h)
 ·exact .inr (.inl ⟨kd, rows, by simp [AV.scrubL, AV.scrub], hc.mono h.M⟩)
 ·exact .inr (.inr ⟨ag, kd, rows, scrub_tag .., hc⟩)
theorem Cont.mono {x x' : X} (h : Ext x x' [] []) {cs : List AV} {l : List Value} (hc : Cont x cs l) : Cont x' cs l := by
 have := hc.scrub h
 rwa [AV.scrubL_nil] at this
theorem Cont.plain {x : X} {cs : List AV} {l : List Value} (hc : Cont x cs l) (h : Den.plain cs = true) : RepL x cs l := by
 rcases hc with hc | ⟨kd, rows, rfl, hc⟩ | ⟨ag, kd, rows, rfl, hc⟩
 ·exact hc
 ·simp [Den.plain] at h
 ·cases ag <;> simp [Den.plain, mpTag] at h
theorem Cont.arr {x : X} {ks : List Kd} {rows : Rows} {l : List Value} (hc : Cont x [.arr ks rows] l) : ArrV x.M ks rows l := by
 rcases hc with hc | ⟨kd, rows', he, hc⟩ | ⟨ag, kd, rows', he, hc⟩
 ·cases hc with | cons _ _ _ _ h1 _ => cases h1
 ·cases he; exact hc
 ·cases ag <;> cases he
theorem Cont.mp {x : X} {ag : Bool} {ks : List Kd} {rows : Rows} {l : List Value} (hc : Cont x [mpTag ag, .arr ks rows] l) : MapV ag ks rows l := by
 rcases hc with hc | ⟨kd, rows', he, hc⟩ | ⟨ag', kd, rows', he, hc⟩
 ·have := hc.notMp
  rw [isMp_tag] at this; cases this
 ·cases ag <;> cases he
 ·cases ag <;> cases ag' <;> cases he <;> exact hc
def Cont0 (x : X) (cs : List AV) (l : List Value) : Prop := RepL x cs l ∨ ∃ ks rows, cs = [.arr ks rows] ∧ ArrV x.M ks rows l
theorem Cont0.notMp {x : X} {cs : List AV} {l : List Value} (h : Cont0 x cs l) : isMp cs = false := by
 rcases h with h | ⟨ks, rows, rfl, _⟩
 ·exact h.notMp
 ·rfl
theorem Cont0.cont {x : X} {cs : List AV} {l : List Value} (h : Cont0 x cs l) : Cont x cs l := by
 rcases h with h | h
 ·exact .inl h
 ·exact .inr (.inl h)
theorem Cont.cont0 {x : X} {cs : List AV} {l : List Value} (h : Cont x cs l) (hm : isMp cs = false) : Cont0 x cs l := by
 rcases h with h | h | ⟨ag, ks, rows, rfl, _⟩
 ·exact .inl h
 ·exact .inr h
 ·rw [isMp_tag] at hm; cases hm
theorem plain_notMp {cs : List AV} (h : plain cs = true) : isMp cs = false := by
 cases hm : isMp cs with
 |false => rfl
 |true =>
  obtain ⟨ag, ks, rows, rfl⟩ := isMp_eq hm
  cases ag <;> simp [plain, mpTag] at h
theorem isMp_arr (ks : List Kd) (rows : Rows) : isMp [.arr ks rows] = false := rfl
theorem isMp_scrub (p ks : List Nat) (cs : List AV) : isMp (AV.scrubL p ks cs) = isMp cs := by
 match cs with
 |[] => rfl
 |[a] => cases a <;> simp only [AV.scrubL, AV.scrub] <;> first | rfl | (split <;> rfl)
 |[a, b] =>
  cases b with
  |arr kd rows =>
   cases a with
   |dv d => rfl
   |pl k off => simp only [AV.scrubL, AV.scrub]; split <;> rfl
   |ms k kd off n c => simp only [AV.scrubL, AV.scrub]; split <;> rfl
   |pa k kd i j => simp only [AV.scrubL, AV.scrub]; split <;> rfl
   |_ => rfl
  |_ =>
   have h1 : ∀ q z, (∀ kd rows, z ≠ AV.arr kd rows) → isMp [q, z] = false := fun q z hz => by
    cases hm : isMp [q, z] with
    |false => rfl
    |true =>
     obtain ⟨ag, kd, rows, he⟩ := isMp_eq hm
     simp only [List.cons.injEq, and_true] at he
     exact absurd he.2 (hz _ _)
   rw [h1 a _ (by intro kd rows h; cases h)]
   simp only [AV.scrubL]
   refine h1 _ _ (fun kd rows h => ?_)
   simp only [AV.scrub] at h
   first | cases h | (split at h <;> cases h)
 |a :: b :: c :: l =>
  have h1 : ∀ q r s (z : List AV), isMp (q :: r :: s :: z) = false := fun q r s z => by
   cases hm : isMp (q :: r :: s :: z) with
   |false => rfl
   |true => obtain ⟨ag, kd, rows, he⟩ := isMp_eq hm; simp at he
  simp only [AV.scrubL]
  rw [h1, h1]
structure MpMap (f : AV → AV) : Prop where
 tag : ∀ ag, f (mpTag ag) = mpTag ag
 arr : ∀ ks rows, ∃ rows', f (.arr ks rows) = .arr ks rows'
 flat : ∀ ks rows, flatKds ks = true → f (.arr ks rows) = .arr ks rows
 tag' : ∀ a ag, f a = mpTag ag → a = mpTag ag
 arr' : ∀ a ks rows, f a = .arr ks rows → ∃ rows', a = .arr ks rows'
theorem MpMap.mp {f : AV → AV} (hf : MpMap f) (ag : Bool) (ks : List Kd) (rows : Rows) (h : flatKds ks = true) : [mpTag ag, .arr ks rows].map f = [mpTag ag, .arr ks rows] := by
 simp only [List.map_cons, List.map_nil, hf.tag, hf.flat ks rows h]
theorem MpMap.isMp {f : AV → AV} (hf : MpMap f) (cs : List AV) : isMp (cs.map f) = Den.isMp cs := by
 cases h : Den.isMp cs with
 |true =>
  obtain ⟨ag, ks, rows, rfl⟩ := isMp_eq h
  obtain ⟨rows', he⟩ := hf.arr ks rows
  simp only [List.map_cons, List.map_nil, hf.tag, he]
  exact isMp_tag _ _ _
 |false =>
  cases h2 : Den.isMp (cs.map f) with
  |false => rfl
  |true =>
   obtain ⟨ag, ks, rows, he⟩ := isMp_eq h2
   rcases cs with _ | ⟨a, _ | ⟨b, _ | ⟨c, l⟩⟩⟩
   ·cases he
   ·simp at he
   ·simp only [List.map_cons, List.map_nil, List.cons.injEq, and_true] at he
    obtain ⟨rows', hb⟩ := hf.arr' _ _ _ he.2
    rw [hf.tag' _ _ he.1, hb, isMp_tag] at h
    cases h
   ·simp at he
theorem Cont.mpMap {x x' : X} {f : AV → AV} (hf : MpMap f) {ag : Bool} {ks : List Kd} {rows : Rows} {l : List Value} (h : MapV ag ks rows l) : Cont x' ([mpTag ag, .arr ks rows].map f) l := by
 rw [hf.mp _ _ _ h.2.2]; exact .inr (.inr ⟨ag, ks, rows, rfl, h⟩)
theorem notMp_sl {cs : List AV} {i : Nat} {n : Bool} {ks : List Kd} {rows : Rows} {r : Right} (h : cs[i]? = some (.sl n ks rows r)) : isMp cs = false := by
 cases hm : isMp cs with
 |false => rfl
 |true =>
  obtain ⟨ag, kd, rs, rfl⟩ := isMp_eq hm
  match i with
  |0 => cases ag <;> simp [mpTag] at h
  |1 => simp at h
  |i + 2 => simp at h
theorem isMp_two {f g : AV → AV} (hf : MpMap f) (hg : MpMap g) (a b : AV) : isMp [f a, g b] = isMp [a, b] := by
 cases h : isMp [a, b] with
 |true =>
  obtain ⟨ag, kd, rows, he⟩ := isMp_eq h
  simp only [List.cons.injEq, and_true] at he
  obtain ⟨rows', hb⟩ := hg.arr kd rows
  rw [he.1, he.2, hf.tag, hb]
  exact isMp_tag ag kd rows'
 |false =>
  cases h2 : isMp [f a, g b] with
  |false => rfl
  |true =>
   obtain ⟨ag, kd, rows, he⟩ := isMp_eq h2
   simp only [List.cons.injEq, and_true] at he
   obtain ⟨r', hb⟩ := hg.arr' _ _ _ he.2
   rw [hf.tag' _ _ he.1, hb, isMp_tag] at h
   cases h
theorem isMp_one (a : AV) : isMp [a] = false := by
 cases hm : isMp [a] with
 |false => rfl
 |true => obtain ⟨ag, kd, rows, he⟩ := isMp_eq hm; simp at he
theorem isMp_three (a b c : AV) (l : List AV) : isMp (a :: b :: c :: l) = false := by
 cases hm : isMp (a :: b :: c :: l) with
 |false => rfl
 |true => obtain ⟨ag, kd, rows, he⟩ := isMp_eq hm; simp at he
theorem lookupM_eq {m : Mem} {k : Nat} {ag : Bool} {ks : List Kd} {rows : Rows} (h : lookupM m k = some (ag, ks, rows)) : lookup m k = some [mpTag ag, .arr ks rows] := by
 unfold lookupM at h
 split at h
 ·rename_i h1; cases h; exact h1
 ·rename_i h1; cases h; exact h1
 ·cases h
theorem lookupC_eq {m : Mem} {k : Nat} {cs : List AV} (h : lookupC m k = some cs) : lookup m k = some cs ∧ plain cs = true := by
 unfold lookupC at h
 split at h
 ·rename_i cs' hk
  split at h
  ·rename_i hp; cases h; exact ⟨hk, hp⟩
  ·cases h
 ·cases h
theorem lookupA_eq {m : Mem} {k : Nat} {ks : List Kd} {rows : Rows} (h : lookupA m k = some (ks, rows)) : lookup m k = some [.arr ks rows] := by
 unfold lookupA at h
 split at h
 ·rename_i ks' rows' hk; cases h; exact hk
 ·cases h
mutual
theorem Rep.olden {x : X} (h : x.M0 = x.M) : ∀ {a v}, Rep x a v → Rep x a.olden v
 |_, _, .dv d v hd => by unfold AV.olden; exact .dv d v hd
 |_, _, .sl n kd rows r v hd hr => by
  unfold AV.olden
  refine .sl n kd rows _ v hd ?_
  cases r with
  |no => show RepD x.M0 _ v; rw [h]; exact hd
  |ex => exact hr
  |tok k => exact hr
  |old => exact hr
 |_, _, .agg cs vs hl => by unfold AV.olden; exact .agg _ vs (RepL.olden h hl)
 |_, _, .tup cs vs hl => by unfold AV.olden; exact .tup _ vs (RepL.olden h hl)
 |_, _, .pl k off b hk => by unfold AV.olden; exact .pl k off b hk
 |_, _, .pv kd row off b o h1 h2 h3 => by unfold AV.olden; exact .pv kd row off b o h1 h2 h3
 |_, _, .fn f cs vs hl => by unfold AV.olden; exact .fn f _ vs (RepL.olden h hl)
 |_, _, .ifc t a v ha => by unfold AV.olden; exact .ifc t _ v (Rep.olden h ha)
 |_, _, .ms k kd off n c b o c' hk g1 g2 g3 => by unfold AV.olden; exact .ms k kd off n c b o c' hk g1 g2 g3
 |_, _, .pa k kd i j b hk => by unfold AV.olden; exact .pa k kd i j b hk
 |_, _, .junk v => by unfold AV.olden; exact .junk v
theorem RepL.olden {x : X} (h : x.M0 = x.M) : ∀ {l vs}, RepL x l vs → RepL x (AV.oldenL l) vs
 |_, _, .nil => by unfold AV.oldenL; exact .nil
 |_, _, .cons a v l vs ha hl => by unfold AV.oldenL; exact .cons _ _ _ _ (Rep.olden h ha) (RepL.olden h hl)
end
theorem oldenL_length : ∀ l : List AV, (AV.oldenL l).length = l.length
 |[] => rfl
 |a :: l => by simp [AV.oldenL, oldenL_length l]
theorem pvOff_lt (off : Nat) : pvOff off < 3000000000 := Nat.mod_lt _ (by decide)
theorem pvOff_idem (off : Nat) : pvOff (pvOff off) = pvOff off := Nat.mod_mod off 3000000000
theorem isOld_pvOff (off : Nat) : isOld (pvOff off) = false := by
 have := pvOff_lt off
 cases h : isOld (pvOff off) with
 |false => rfl
 |true => have := Nat.ble_eq.mp h; omega
theorem pvOff_add {o off : Nat} (h : pvOff o + off < 3000000000) : pvOff (o + off) = pvOff o + off := by
 have e : ∀ z, pvOff z = z % 3000000000 := fun _ => rfl
 rw [e] at *
 rw [e] at *
 omega
theorem isOld_add {o off : Nat} (h : pvOff o + off < 3000000000) (ho : isOld (o + off) = true) : isOld o = true := by
 have e : ∀ z, pvOff z = z % 3000000000 := fun _ => rfl
 rw [e] at h
 have h1 := Nat.ble_eq.mp ho
 exact Nat.ble_eq.mpr (by omega)
def X.first (x : X) : X := { x with M := x.M0 }
theorem Ext.first {x : X} (h : Sub x.M0 x.M) : Ext x.first x [] [] := ⟨h, fun _ _ _ e => e, fun _ _ _ e => e, fun _ _ => rfl, rfl⟩
theorem Rep.first {x : X} (h : Sub x.M0 x.M) {a v} (r : Rep x.first a v) : Rep x a.olden v := by
 have := Rep.scrub (Ext.first h) (r.olden rfl)
 rwa [AV.scrub_nil] at this
theorem RepL.first {x : X} (h : Sub x.M0 x.M) {l vs} (r : RepL x.first l vs) : RepL x (AV.oldenL l) vs := by
 have := RepL.scrub (Ext.first h) (r.olden rfl)
 rwa [AV.scrubL_nil] at this
theorem Rep.cellP {x : X} (hs : Sub x.M0 x.M) {ks : List Kd} {r : Row} {b o j off : Nat} {k : Kd} (h : Row.ofKds ks r = true) (hc : CellsAt x.M b o r) (hc0 : isOld off = true → CellsAt x.M0 b o r) (hk : ks[j]? = some k) :
  ∃ v, x.M b (o + j) = some v ∧ Rep x (oldA off (Row.cell k r j)) v := by
 unfold oldA
 cases ho : isOld off with
 |false => exact Rep.cell h hc hk
 |true =>
  obtain ⟨v, h1, h2⟩ := Rep.cell (x := x.first) h (hc0 ho) hk
  exact ⟨v, hs _ _ _ h1, Rep.first hs h2⟩
theorem RepL.cellsP {x : X} (hs : Sub x.M0 x.M) {ks : List Kd} {r : Row} {b o off : Nat} (h : Row.ofKds ks r = true) (hc : CellsAt x.M b o r) (hc0 : isOld off = true → CellsAt x.M0 b o r) (l : List Kd) (j : Nat) (hl : ∀ i, i < l.length → ks[j + i]? = l[i]?) :
  ∃ vs, vs.length = l.length ∧ RepL x (oldL off (Row.cells r l j)) vs ∧ ∀ i v, vs[i]? = some v → x.M b (o + j + i) = some v := by
 unfold oldL
 cases ho : isOld off with
 |false => exact RepL.cells h hc l j hl
 |true =>
  obtain ⟨vs, h1, h2, h3⟩ := RepL.cells (x := x.first) h (hc0 ho) l j hl
  exact ⟨vs, h1, RepL.first hs h2, fun i v hi => hs _ _ _ (h3 i v hi)⟩
end Go.Den
namespace Go.Den
open Go.RowKit (Below)

structure Env where
 P : Program
 w0 : World
 x0 : X
 E : List Nat          -- the blocks of the variables that were handed over
 D : List Deferred := []   -- what was deferred
 L : List Nat := []    -- the blocks of the slices that were lent with their rights

def TokOk (e : Env) (x : X) (w : World) (v : Value) (sz : List Kd) : Prop :=
 ∀ a n c, v = .slice (some a) n c → 0 < c → ∃ cur ty, a.off = 0 ∧ a.spot = none ∧ (e.w0.heap.size ≤ a.block ∨ a.block ∈ e.L) ∧ w.heap[a.block]? = some (.cells cur ty (0, 0)) ∧ (c ≤ maxLen ∧ (u8k sz = true → u8Ok e.P ty = true)) ∧ c * sz.length ≤ cur.size ∧
  ∀ j, n * sz.length ≤ j → x.M a.block j = none

structure More (e : Env) (x : X) (w : World) (m : Mem) : Prop where
 room : ∀ (k b : Nat) (cs : List AV), lookup m k = some cs → isMp cs = false → x.loc k = some b → ∃ (arr : Array Value) (ty : TypeId), w.heap[b]? = some (.cells arr ty (0, 0)) ∧ x.cap k ≤ arr.size
 ext : ∀ k, 1000 ≤ k → x.cap k = e.x0.cap k
 M0 : x.M0 = e.x0.M
 vir : ∀ (k b : Nat) (cs : List AV) (arr : Array Value) (ty : TypeId), lookup m k = some cs → virgin cs = true → x.loc k = some b → w.heap[b]? = some (.cells arr ty (0, 0)) → vtOk e.P ty = true
 drawn : e.w0.drawn ≤ w.drawn

def globB (P : Program) : Option Nat := match P.globals.size with | 3 => some 0 | _ => none
def GlobOk (e : Env) : Prop := ∀ g, globB e.P = some g → (∃ ty fr, e.w0.heap[g]? = some (.cells (Go.Lib.pow10Tab.map (Value.int .u64)).toArray ty fr)) ∧ (∃ v, e.x0.M g 0 = some v) ∧ g ∉ e.E ∧ g ∉ e.L

structure VirMap (f : AV → AV) : Prop where
 a : ∀ a, f a = .dv (.val (.pointer none)) → a = .dv (.val (.pointer none))
 b : ∀ a r, f a = .sl true [.i .u8] [] r → ∃ r', a = .sl true [.i .u8] [] r'
 c : ∀ a v, f a = .dv (.val (.bool v)) → a = .dv (.val (.bool v))
theorem virgin_iff {cs : List AV} : virgin cs = true ↔ ∃ r v, cs = [.dv (.val (.pointer none)), .sl true [.i .u8] [] r, .dv (.val (.bool v))] := by
 constructor
 ·intro h
  unfold virgin at h
  split at h
  ·exact ⟨_, _, rfl⟩
  ·cases h
 ·rintro ⟨r, v, rfl⟩; rfl
theorem virLe_imp {cs cs0 : List AV} (h : virLe cs cs0 = true) (hv : virgin cs = true) : virgin cs0 = true := by
 unfold virLe at h; rw [hv] at h; exact h
theorem u8El_imp {P : Program} {t : TypeId} {ks : List Kd} (h : u8El P t ks = true) (hv : u8k ks = true) : u8Ok P t = true := by
 unfold u8El at h; rw [hv] at h; exact h
theorem virOk_imp {P : Program} {t : TypeId} {cs : List AV} (h : virOk P t cs = true) (hv : virgin cs = true) : vtOk P t = true := by
 unfold virOk at h; rw [hv] at h; exact h
theorem VirMap.map {f : AV → AV} (hf : VirMap f) {cs : List AV} (h : virgin (cs.map f) = true) : virgin cs = true := by
 obtain ⟨r, v, h⟩ := virgin_iff.1 h
 rcases cs with _ | ⟨a, _ | ⟨b, _ | ⟨c, _ | ⟨d, cs⟩⟩⟩⟩
 ·have := congrArg List.length h; simp at this
 ·have := congrArg List.length h; simp at this
 ·have := congrArg List.length h; simp at this
 ·simp only [List.map_cons, List.map_nil, List.cons.injEq, and_true] at h
  obtain ⟨h1, h2, h3⟩ := h
  obtain ⟨r', rfl⟩ := hf.b _ _ h2
  rw [hf.a _ h1, hf.c _ _ h3]; rfl
 ·have := congrArg List.length h; simp at this
theorem VirMap.scrub (p ks : List Nat) : VirMap (AV.scrub p ks) where
 a a h := by cases a <;> simp only [AV.scrub] at h <;> first | exact h | (split at h <;> cases h) | cases h
 b a r h := by
  cases a <;> simp only [AV.scrub] at h <;> first | (cases h; exact ⟨_, rfl⟩) | (split at h <;> cases h) | cases h
 c a v h := by cases a <;> simp only [AV.scrub] at h <;> first | exact h | (split at h <;> cases h) | cases h
theorem scrubL_map (p ks : List Nat) : ∀ l, AV.scrubL p ks l = l.map (AV.scrub p ks)
 |[] => rfl
 |a :: l => by simp [AV.scrubL, scrubL_map p ks l]
theorem virgin_scrub {p ks : List Nat} {cs : List AV} (h : virgin (AV.scrubL p ks cs) = true) : virgin cs = true := (VirMap.scrub p ks).map (by rwa [scrubL_map] at h)

theorem More.step {e : Env} {x x' : X} {w w' : World} {m m' : Mem} (h : More e x w m)
  (hm : ∀ (k b : Nat) (cs : List AV), lookup m' k = some cs → x'.loc k = some b → ∃ cs0, lookup m k = some cs0 ∧ x.loc k = some b ∧ x'.cap k = x.cap k ∧ (virgin cs = true → virgin cs0 = true) ∧ (isMp cs = false → isMp cs0 = false))
  (hw : ∀ (b : Nat) (arr : Array Value) (ty : TypeId), w.heap[b]? = some (.cells arr ty (0, 0)) → ∃ (arr' : Array Value), w'.heap[b]? = some (.cells arr' ty (0, 0)) ∧ arr.size ≤ arr'.size)
  (hx : ∀ k, 1000 ≤ k → x'.cap k = x.cap k) (hM : x'.M0 = x.M0) (hd : w.drawn ≤ w'.drawn) : More e x' w' m' where
 room k b cs hk hmp hb := by
  obtain ⟨c0, h0, h1, h2, _, hm0⟩ := hm k b cs hk hb
  obtain ⟨arr, ty, h3, h4⟩ := h.room k b c0 h0 (hm0 hmp) h1
  obtain ⟨arr', h5, h6⟩ := hw b arr ty h3
  exact ⟨arr', ty, h5, by omega⟩
 vir k b cs arr ty hk hv hb hh := by
  obtain ⟨c0, h0, h1, _, h2, _⟩ := hm k b cs hk hb
  have hmp : isMp c0 = false := by obtain ⟨r, v, he⟩ := virgin_iff.1 (h2 hv); rw [he]; rfl
  obtain ⟨arr0, ty0, h3, _⟩ := h.room k b c0 h0 hmp h1
  obtain ⟨arr', h5, _⟩ := hw b arr0 ty0 h3
  rw [hh] at h5
  cases h5
  exact h.vir k b c0 arr0 ty h0 (h2 hv) h1 h3
 ext k hk := (hx k hk).trans (h.ext k hk)
 M0 := hM.trans h.M0
 drawn := Nat.le_trans h.drawn hd

structure Inv (e : Env) (x : X) (w : World) (m : Mem) : Prop where
 sub : ∀ b o v, x.M b o = some v → w.cell? ⟨b, o, none⟩ = some v
 slot : ∀ k cs, lookup m k = some cs → ∃ b ty arr, x.loc k = some b ∧ (e.w0.heap.size ≤ b ∨ b ∈ e.E ∧ 1000 ≤ k) ∧ w.heap[b]? = some (objOf cs arr ty) ∧ Cont x cs arr.toList ∧ ∀ o, x.M b o = none
 inj : ∀ k k' cs cs' b, lookup m k = some cs → lookup m k' = some cs' → x.loc k = some b → x.loc k' = some b → k = k'
 tok : ∀ k v sz, x.tk k = some (v, sz) → TokOk e x w v sz
 tokslot : ∀ k a n c sz j cs, x.tk k = some (.slice (some a) n c, sz) → 0 < c → lookup m j = some cs → x.loc j ≠ some a.block
 toktok : ∀ k k' a n c sz a' n' c' sz', x.tk k = some (.slice (some a) n c, sz) → x.tk k' = some (.slice (some a') n' c', sz') → 0 < c → 0 < c' → a.block = a'.block → k = k'
 os : w.os = e.w0.os
 tape : w.tape = e.w0.tape
 output : w.output = e.w0.output
 size : e.w0.heap.size ≤ w.heap.size
 old : ∀ b, b < e.w0.heap.size → b ∉ e.E → b ∉ e.L → w.heap[b]? = e.w0.heap[b]?
 mono : Sub e.x0.M x.M
 new : ∀ b o v, x.M b o = some v → e.x0.M b o = some v ∨ e.w0.heap.size ≤ b ∨ b ∈ e.L
 ext : ∀ k, 1000 ≤ k → x.loc k = e.x0.loc k
 low : ∀ b o v, e.x0.M b o = some v → b < e.w0.heap.size
 more : More e x w m
 glob : GlobOk e

theorem Inv.lt {e : Env} {x : X} {w : World} {m : Mem} (h : Inv e x w m) {b o : Nat} {v : Value} (hv : x.M b o = some v) : b < w.heap.size := by
 have := h.sub b o v hv
 unfold World.cell? at this
 split at this
 ·rename_i hb; exact (Array.getElem?_eq_some_iff.1 hb).1
 ·simp at this
theorem Inv.tokLt {e : Env} {x : X} {w : World} {m : Mem} (h : Inv e x w m) {k a n c sz} (hk : x.tk k = some (.slice (some a) n c, sz)) (hn : 0 < c) : a.block < w.heap.size := by
 obtain ⟨cur, ty, _, _, _, hb, _⟩ := h.tok k _ _ hk a n c rfl hn
 exact (Array.getElem?_eq_some_iff.1 hb).1

theorem Inv.drew {e : Env} {x : X} {w : World} {m : Mem} (h : Inv e x w m) : Inv e x w.drew m :=
 ⟨h.sub, h.slot, h.inj, h.tok, h.tokslot, h.toktok, h.os, h.tape, h.output, h.size, h.old, h.mono, h.new, h.ext, h.low, h.more.step (fun k b cs hk hb => ⟨cs, hk, hb, rfl, id, id⟩) (fun b arr ty hb => ⟨arr, hb, Nat.le_refl _⟩) (fun _ _ => rfl) rfl (Nat.le_succ _), h.glob⟩

theorem Inv.congr {e : Env} {x : X} {w : World} {m m' : Mem} (h : Inv e x w m) (hm : ∀ k, lookup m' k = lookup m k) : Inv e x w m' where
 sub := h.sub
 slot k cs hk := h.slot k cs (by rw [← hm]; exact hk)
 inj k k' cs cs' b hk hk' := h.inj k k' cs cs' b (by rw [← hm]; exact hk) (by rw [← hm]; exact hk')
 tok := h.tok
 tokslot k a n c sz j cs hk hn hj := h.tokslot k a n c sz j cs hk hn (by rw [← hm]; exact hj)
 toktok := h.toktok
 os := h.os
 tape := h.tape
 output := h.output
 size := h.size
 old := h.old
 mono := h.mono
 new := h.new
 ext := h.ext
 low := h.low
 more := h.more.step (fun k b cs hk hb => ⟨cs, by rw [← hm]; exact hk, hb, rfl, id, id⟩) (fun b arr ty hb => ⟨arr, hb, Nat.le_refl _⟩) (fun _ _ => rfl) rfl (Nat.le_refl _)
 glob := h.glob

theorem Inv.forget {e : Env} {x x' : X} {w : World} {m m' : Mem} {p ks : List Nat} (h : Inv e x w m) (hx : Ext x x' p ks) (hM : x'.M = x.M)
  (hloc : ∀ k b, x'.loc k = some b → x.loc k = some b) (hext : ∀ k, 1000 ≤ k → x'.loc k = x.loc k) (hcap : ∀ k, 1000 ≤ k → x'.cap k = x.cap k)
  (hm : ∀ k cs, lookup m' k = some cs → mem k p = false ∧ ∃ cs0, lookup m k = some cs0 ∧ cs = AV.scrubL p ks cs0)
  (htok : ∀ k v sz, x'.tk k = some (v, sz) → TokOk e x w v sz)
  (htokslot : ∀ k a n c sz j cs, x'.tk k = some (.slice (some a) n c, sz) → 0 < c → lookup m j = some cs → x.loc j ≠ some a.block)
  (htoktok : ∀ k k' a n c sz a' n' c' sz', x'.tk k = some (.slice (some a) n c, sz) → x'.tk k' = some (.slice (some a') n' c', sz') → 0 < c → 0 < c' → a.block = a'.block → k = k') :
  Inv e x' w m' where
 sub := by rw [hM]; exact h.sub
 slot k cs hk := by
  obtain ⟨hp, cs0, h0, rfl⟩ := hm k cs hk
  obtain ⟨b, ty, arr, h1, h2, h3, h4, h5⟩ := h.slot k cs0 h0
  exact ⟨b, ty, arr, hx.loc k b hp h1, h2, by rw [objOf_congr (isMp_scrub p ks cs0)]; exact h3, h4.scrub hx, by rw [hM]; exact h5⟩
 inj k k' cs cs' b hk hk' hb hb' := by
  obtain ⟨_, c0, h0, _⟩ := hm k cs hk
  obtain ⟨_, c1, h1, _⟩ := hm k' cs' hk'
  exact h.inj k k' c0 c1 b h0 h1 (hloc k b hb) (hloc k' b hb')
 tok k v sz hk := by
  have := htok k v sz hk
  intro a n c hv hn
  obtain ⟨cur, ty, h1, h2, h3, h4, h5, h6, h7⟩ := this a n c hv hn
  exact ⟨cur, ty, h1, h2, h3, h4, h5, h6, by rw [hM]; exact h7⟩
 tokslot k a n c sz j cs hk hn hj hl := by
  obtain ⟨_, c0, h0, _⟩ := hm j cs hj
  exact htokslot k a n c sz j c0 hk hn h0 (hloc j _ hl)
 toktok := htoktok
 os := h.os
 tape := h.tape
 output := h.output
 size := h.size
 old := h.old
 mono := by rw [hM]; exact h.mono
 new := by rw [hM]; exact h.new
 ext k hk := by rw [hext k hk]; exact h.ext k hk
 low := h.low
 more := h.more.step (fun k b cs hk hb => by
  obtain ⟨hp, c0, h0, _⟩ := hm k cs hk
  exact ⟨c0, h0, hloc k b hb, hx.cap k hp, fun hv => by obtain ⟨_, c1, h1, h2⟩ := hm k cs hk; rw [h0] at h1; cases h1; exact virgin_scrub (h2 ▸ hv), fun hv => by obtain ⟨_, c1, h1, h2⟩ := hm k cs hk; rw [h0] at h1; cases h1; rw [h2, isMp_scrub] at hv; exact hv⟩) (fun b arr ty hb => ⟨arr, hb, Nat.le_refl _⟩) hcap hx.M0 (Nat.le_refl _)
 glob := h.glob

def X.withRow (x : X) (g : Nat) (cs : List Value) : X :=
 { x with M := fun b o => if b = g then cs[o]? else x.M b o }
theorem heap_new (w : World) (o : Obj) : (w.alloc o).heap[w.heap.size]? = some o := by
 show (w.heap.push o)[w.heap.size]? = some o
 simp
theorem heap_old (w : World) (o : Obj) (b : Nat) (h : b < w.heap.size) : (w.alloc o).heap[b]? = w.heap[b]? := by
 show (w.heap.push o)[b]? = _
 rw [Array.getElem?_push, if_neg (by omega)]
theorem Sub.withRow {e : Env} {x : X} {w : World} {m : Mem} (h : Inv e x w m) (cs : List Value) : Sub x.M (x.withRow w.heap.size cs).M := by
 intro b o v hv
 have := h.lt hv
 simp only [X.withRow]; rw [if_neg (by omega)]; exact hv
theorem Ext.withRow {e : Env} {x : X} {w : World} {m : Mem} (h : Inv e x w m) (cs : List Value) (p ks : List Nat) : Ext x (x.withRow w.heap.size cs) p ks :=
 ⟨Sub.withRow h cs, fun _ _ _ h => h, fun _ _ _ h => h, fun _ _ => rfl, rfl⟩
theorem Inv.withRow {e : Env} {x : X} {w : World} {m : Mem} (h : Inv e x w m) (arr : Array Value) (ty : TypeId) (cs : List Value) (hcs : ∀ (j : Nat) (v : Value), cs[j]? = some v → arr[j]? = some v) :
  Inv e (x.withRow w.heap.size cs) (w.alloc (.cells arr ty)) m where
 sub b o v hv := by
  simp only [X.withRow] at hv
  by_cases hb : b = w.heap.size
  ·subst hb
   rw [if_pos rfl] at hv
   rw [World.cell?_alloc_new]; exact hcs o v hv
  ·rw [if_neg hb] at hv
   rw [World.cell?_alloc_lt _ _ _ (h.lt hv)]; exact h.sub b o v hv
 slot k ds hk := by
  obtain ⟨b, t, a, h1, h2, h3, h4, h5⟩ := h.slot k ds hk
  have hb := (Array.getElem?_eq_some_iff.1 h3).1
  refine ⟨b, t, a, h1, h2, by rw [heap_old _ _ _ hb]; exact h3, h4.mono (Ext.withRow h cs _ _), fun o => ?_⟩
  simp only [X.withRow]; rw [if_neg (by omega)]; exact h5 o
 inj := h.inj
 tok k v sz hk a n c hv hn := by
  obtain ⟨cur, ty, h1, h2, h3, h4, h5, h6, h7⟩ := h.tok k v sz hk a n c hv hn
  have hb := (Array.getElem?_eq_some_iff.1 h4).1
  refine ⟨cur, ty, h1, h2, h3, by rw [heap_old _ _ _ hb]; exact h4, h5, h6, fun j hj => ?_⟩
  simp only [X.withRow]; rw [if_neg (by omega)]; exact h7 j hj
 tokslot := h.tokslot
 toktok := h.toktok
 os := h.os
 tape := h.tape
 output := h.output
 size := by have := h.size; simp; omega
 old b hb hE hL := by rw [heap_old _ _ _ (by have := h.size; omega)]; exact h.old b hb hE hL
 mono := h.mono.trans (Sub.withRow h cs)
 new b o v hv := by
  simp only [X.withRow] at hv
  by_cases hb : b = w.heap.size
  ·right; left; have := h.size; omega
  ·rw [if_neg hb] at hv; exact h.new b o v hv
 ext := h.ext
 low := h.low
 more := h.more.step (fun k b cs hk hb => ⟨cs, hk, hb, rfl, id, id⟩) (fun b arr ty hb => ⟨arr, by rw [heap_old _ _ _ (Array.getElem?_eq_some_iff.1 hb).1]; exact hb, Nat.le_refl _⟩) (fun _ _ => rfl) rfl (Nat.le_refl _)
 glob := h.glob

theorem Inv.refill {e : Env} {x : X} {w : World} {m m' : Mem} (h : Inv e x w m)
  (hm : ∀ k cs, lookup m' k = some cs → ∃ c0, lookup m k = some c0 ∧ ((virgin cs = true → virgin c0 = true) ∧ isMp cs = isMp c0) ∧ ∀ b ty arr, x.loc k = some b → w.heap[b]? = some (objOf c0 arr ty) → Cont x c0 arr.toList → Cont x cs arr.toList) : Inv e x w m' where
 sub := h.sub
 slot k cs hk := by
  obtain ⟨c0, h0, hv, hc⟩ := hm k cs hk
  obtain ⟨b, ty, arr, h1, h2, h3, h4, h5⟩ := h.slot k c0 h0
  exact ⟨b, ty, arr, h1, h2, by rw [objOf_congr hv.2]; exact h3, hc b ty arr h1 h3 h4, h5⟩
 inj k k' cs cs' b hk hk' hb hb' := by
  obtain ⟨c0, h0, _⟩ := hm k cs hk
  obtain ⟨c1, h1, _⟩ := hm k' cs' hk'
  exact h.inj k k' c0 c1 b h0 h1 hb hb'
 tok := h.tok
 tokslot k a n c sz j cs hk hn hj hl := by
  obtain ⟨c0, h0, _⟩ := hm j cs hj
  exact h.tokslot k a n c sz j c0 hk hn h0 hl
 toktok := h.toktok
 os := h.os
 tape := h.tape
 output := h.output
 size := h.size
 old := h.old
 mono := h.mono
 new := h.new
 ext := h.ext
 low := h.low
 glob := h.glob
 more := h.more.step (fun k b cs hk hb => by
  obtain ⟨c0, h0, hv, _⟩ := hm k cs hk
  exact ⟨c0, h0, hb, rfl, hv.1, fun hmp => by rw [hv.2] at hmp; exact hmp⟩) (fun b arr ty hb => ⟨arr, hb, Nat.le_refl _⟩) (fun _ _ => rfl) rfl (Nat.le_refl _)
theorem lookup_tidy : ∀ (m : Mem) (k : Nat), lookup (tidy m) k = match lookup m k with | some [] => none | r => r
 |[], k => rfl
 |(j, []) :: m, k => by
  simp only [tidy, lookup_drop, lookup, beq_eq, lookup_tidy m k]
  by_cases h : j = k
  ·subst h; simp
  ·have h' : ¬ k = j := fun hh => h hh.symm
   rw [if_neg h', if_neg h]
 |(j, c :: cs) :: m, k => by
  simp only [tidy, lookup, beq_eq, lookup_tidy m k]
  by_cases h : j = k
  ·subst h; simp
  ·rw [if_neg h, if_neg h]
theorem tidy_get {m : Mem} {k : Nat} {cs : List AV} (h : lookup (tidy m) k = some cs) : lookup m k = some cs ∧ cs ≠ [] := by
 rw [lookup_tidy] at h
 revert h
 cases h0 : lookup m k with
 |none => simp
 |some c => cases c with
  |nil => simp
  |cons c l => intro h; simp only [Option.some.injEq] at h; subst h; exact ⟨rfl, by simp⟩
theorem Inv.tidy {e : Env} {x : X} {w : World} {m : Mem} (h : Inv e x w m) : Inv e x w (Den.tidy m) :=
 h.refill fun k cs hk => ⟨cs, (tidy_get hk).1, ⟨id, rfl⟩, fun _ _ _ _ _ hc => hc⟩
def dropNil : Mem → Mem
 |[] => []
 |(_, []) :: m => dropNil m
 |(k, c :: cs) :: m => (k, c :: cs) :: dropNil m
structure Up (x x0 : X) (n : Nat) : Prop where
 M : x0.M = x.M
 M0 : x0.M0 = x.M0
 loc : ∀ k, k < n → x0.loc k = x.loc k
 cap : ∀ k, k < n → x0.cap k = x.cap k
def ContractN (P : Program) (f : FuncId) (args : List AV) (ext : List (List AV)) (out : Out) : Prop :=
 (∃ fn, P.funcs[f]? = some fn ∧ fn.body.isSome = true ∧ fn.name ≠ "runtime.NumGoroutine") ∧ out.pan = false ∧ ext.length < out.ext.length ∧
 ∀ (w : World) (x : X) (E : List Nat) (vs : List Value), (∀ k, x.tk k = none) → Inv ⟨P, w, x, E, [], []⟩ x w (zipExt 1000 ext) → RepL x args vs →
  Calls P f ⟨vs⟩ w fun en w' => ∃ x' x0 v, en = .returned v ∧ Up x x0 (1000 + ext.length) ∧ Inv ⟨P, w, x0, E, [], []⟩ x' w' (dropNil (zipExt 1000 out.ext)) ∧ Rep x' out.res v

def ContractO (P : Program) (f : FuncId) (args : List AV) (ext : List (List AV)) (out : Out) : Prop :=
 (∃ fn, P.funcs[f]? = some fn ∧ fn.body.isSome = true ∧ fn.name ≠ "runtime.NumGoroutine") ∧
 ∀ (w : World) (x : X) (E L : List Nat) (vs : List Value), ((AV.hasTokL args || AV.hasTokLL ext) = false → L = [] ∧ ∀ k, x.tk k = none) → Inv ⟨P, w, x, E, [], L⟩ x w (zipExt 1000 ext) → RepL x args vs →
  Calls P f ⟨vs⟩ w fun en w' => ∃ x' v, out.ext.length = ext.length ∧ (en = if out.pan then .panicked [{ v, recovered := false }] else .returned v) ∧ Inv ⟨P, w, x, E, [], L⟩ x' w' (zipExt 1000 out.ext) ∧ Rep x' out.res v

def Contract (P : Program) (f : FuncId) (args : List AV) (ext : List (List AV)) (out : Out) : Prop := ContractO P f args ext out ∨ ContractN P f args ext out

theorem Contract.ord {P : Program} {f : FuncId} {args : List AV} {ext : List (List AV)} {out : Out} (h : Contract P f args ext out) (he : out.ext.length ≤ ext.length) : ContractO P f args ext out := by
 rcases h with h | ⟨_, _, hl, _⟩
 ·exact h
 ·omega

def OSound (P : Program) (Φ : Orc) : Prop :=
 ∀ (R : Type) (f : FuncId) (args : List AV) (ext : List (List AV)) (k : Out → Option R) (r : R), Φ.call R f args ext k = some r → ∃ out, Contract P f args ext out ∧ k out = some r
end Go.Den
namespace Go.Den
def X.ren (x : X) (src dst : Nat) : X := { x with loc := fun k => if k = dst then x.loc src else x.loc k, cap := fun k => if k = dst then x.cap src else x.cap k }
theorem renL_map (src dst : Nat) : ∀ l, AV.renL src dst l = l.map (AV.ren src dst)
 |[] => rfl
 |a :: l => by simp [AV.renL, renL_map src dst l]
mutual
theorem Rep.ren {x : X} {src dst : Nat} : ∀ {a v}, Rep x a v → Rep (x.ren src dst) (AV.ren src dst a) v
 |_, _, .dv d v h => by unfold AV.ren; exact .dv d v h
 |_, _, .sl n ks rows r v h hr => by
  unfold AV.ren
  refine .sl n ks rows r v h ?_
  cases r <;> exact hr
 |_, _, .agg cs vs h => by unfold AV.ren; exact .agg _ vs (RepL.ren h)
 |_, _, .tup cs vs h => by unfold AV.ren; exact .tup _ vs (RepL.ren h)
 |_, _, .pl k off b h => by
  unfold AV.ren
  split
  ·rename_i hk
   have := beq_eq.1 hk
   subst this
   exact .pl dst off b (by show (if dst = dst then _ else _) = _; rw [if_pos rfl]; exact h)
  ·split
   ·exact .junk _
   ·rename_i hd
    have hne : k ≠ dst := fun e => by subst e; rw [Nat.beq_refl] at hd; cases hd
    exact .pl k off b (by show (if k = dst then _ else _) = _; rw [if_neg hne]; exact h)
 |_, _, .pv ks row off b o h1 h2 h3 => by unfold AV.ren; exact .pv ks row off b o h1 h2 h3
 |_, _, .fn f cs vs h => by unfold AV.ren; exact .fn f _ vs (RepL.ren h)
 |_, _, .ifc t a v h => by unfold AV.ren; exact .ifc t _ v (Rep.ren h)
 |_, _, .ms k ks off n c b o c' h1 h2 h3 h4 => by
  unfold AV.ren
  split
  ·rename_i hk
   have := beq_eq.1 hk
   subst this
   exact .ms dst ks off n c b o c' (by show (if dst = dst then _ else _) = _; rw [if_pos rfl]; exact h1) h2 h3 (by show _ ∧ _ ≤ (if dst = dst then _ else _) ∧ _; rw [if_pos rfl]; exact h4)
  ·split
   ·exact .junk _
   ·rename_i hd
    have hne : k ≠ dst := fun e => by subst e; rw [Nat.beq_refl] at hd; cases hd
    exact .ms k ks off n c b o c' (by show (if k = dst then _ else _) = _; rw [if_neg hne]; exact h1) h2 h3 (by show _ ∧ _ ≤ (if k = dst then _ else _) ∧ _; rw [if_neg hne]; exact h4)
 |_, _, .pa k ks i j b h => by
  unfold AV.ren
  split
  ·rename_i hk
   have := beq_eq.1 hk
   subst this
   exact .pa dst ks i j b (by show (if dst = dst then _ else _) = _; rw [if_pos rfl]; exact h)
  ·split
   ·exact .junk _
   ·rename_i hd
    have hne : k ≠ dst := fun e => by subst e; rw [Nat.beq_refl] at hd; cases hd
    exact .pa k ks i j b (by show (if k = dst then _ else _) = _; rw [if_neg hne]; exact h)
 |_, _, .junk v => by unfold AV.ren; exact .junk v
theorem RepL.ren {x : X} {src dst : Nat} : ∀ {l vs}, RepL x l vs → RepL (x.ren src dst) (AV.renL src dst l) vs
 |_, _, .nil => by unfold AV.renL; exact .nil
 |_, _, .cons a v l vs h1 h2 => by unfold AV.renL; exact .cons _ _ _ _ (Rep.ren h1) (RepL.ren h2)
end
theorem lookup_renM0 (src dst : Nat) : ∀ (m : Mem) (k : Nat), lookup (renM src dst m) k = (lookup m k).map (AV.renL src dst)
 |[], k => rfl
 |(j, cs) :: m, k => by
  simp only [renM, lookup, lookup_renM0 src dst m k]
  split <;> rfl
theorem lookup_renM {src dst : Nat} (hne : src ≠ dst) (m : Mem) {cs : List AV} (hs : lookup m src = some cs) (k : Nat) : lookup (renM src dst (drop (write m dst cs) src)) k = if k = dst then (lookup m src).map (AV.renL src dst) else if k = src then none else (lookup m k).map (AV.renL src dst) := by
 rw [lookup_renM0, lookup_drop, lookup_write]
 by_cases h1 : k = dst
 ·have h2 : ¬ k = src := fun e => hne (e.symm.trans h1)
  rw [if_pos h1, if_neg h2, if_pos h1, hs]
 ·by_cases h2 : k = src
  ·rw [if_pos h2, if_neg h1, if_pos h2]; rfl
  ·rw [if_neg h2, if_neg h1, if_neg h1, if_neg h2]
theorem VirMap.ren (src dst : Nat) : VirMap (AV.ren src dst) where
 a a h := by cases a <;> simp only [AV.ren] at h <;> first | exact h | (split at h <;> first | cases h | (split at h <;> cases h)) | cases h
 b a r h := by cases a <;> simp only [AV.ren] at h <;> first | (cases h; exact ⟨_, rfl⟩) | (split at h <;> first | cases h | (split at h <;> cases h)) | cases h
 c a v h := by cases a <;> simp only [AV.ren] at h <;> first | exact h | (split at h <;> first | cases h | (split at h <;> cases h)) | cases h
theorem virgin_ren {src dst : Nat} {cs : List AV} (h : virgin (AV.renL src dst cs) = true) : virgin cs = true := (VirMap.ren src dst).map (by rwa [renL_map] at h)
theorem ren_arr {src dst : Nat} {a : AV} {ks : List Kd} {rows : Rows} (h : AV.ren src dst a = .arr ks rows) : a = .arr ks rows := by
 cases a <;> simp only [AV.ren] at h <;> first | exact h | (split at h <;> first | cases h | (split at h <;> cases h)) | cases h
theorem ren_dv {src dst : Nat} {a : AV} {d : DV} (h : AV.ren src dst a = .dv d) : a = .dv d := by
 cases a <;> simp only [AV.ren] at h <;> first | exact h | (split at h <;> first | cases h | (split at h <;> cases h)) | cases h
theorem isMp_ren (src dst : Nat) (cs : List AV) : isMp (AV.renL src dst cs) = isMp cs := by
 rw [Bool.eq_iff_iff]
 constructor
 ·intro h
  obtain ⟨ag, ks, rows, he⟩ := isMp_eq h
  rcases cs with _ | ⟨a, _ | ⟨b, _ | ⟨c, cs⟩⟩⟩
  ·simp [AV.renL] at he
  ·simp [AV.renL] at he
  ·simp only [AV.renL, List.cons.injEq, and_true] at he
   have hb := ren_arr he.2
   have ha : a = mpTag ag := by cases ag <;> exact ren_dv he.1
   rw [ha, hb]; exact isMp_tag ag ks rows
  ·simp [AV.renL] at he
 ·intro h
  obtain ⟨ag, ks, rows, rfl⟩ := isMp_eq h
  cases ag <;> rfl
theorem Cont.ren {x : X} {src dst : Nat} {cs : List AV} {l : List Value} (h : Cont x cs l) : Cont (x.ren src dst) (AV.renL src dst cs) l := by
 rcases h with h | ⟨ks, rows, rfl, h⟩ | ⟨ag, ks, rows, rfl, h⟩
 ·exact .inl h.ren
 ·exact .inr (.inl ⟨ks, rows, rfl, h⟩)
 ·exact .inr (.inr ⟨ag, ks, rows, by cases ag <;> rfl, h⟩)
theorem Inv.ren {e : Env} {x : X} {w : World} {m : Mem} (hI : Inv e x w m) {src dst : Nat} (hs : src < 1000) (hd : dst < 1000) (hne : src ≠ dst) {cs0 : List AV} (h0 : lookup m src = some cs0) : Inv e (x.ren src dst) w (renM src dst (drop (write m dst cs0) src)) := by
 have hlk : ∀ {k cs}, lookup (renM src dst (drop (write m dst cs0) src)) k = some cs → ∃ k0 c0, lookup m k0 = some c0 ∧ cs = AV.renL src dst c0 ∧ (x.ren src dst).loc k = x.loc k0 ∧ (x.ren src dst).cap k = x.cap k0 ∧ ((k = dst ∧ k0 = src) ∨ (k ≠ dst ∧ k ≠ src ∧ k0 = k)) := fun {k cs} h => by
  rw [lookup_renM hne m h0] at h
  by_cases h1 : k = dst
  ·rw [if_pos h1] at h
   cases hq : lookup m src with
   |none => rw [hq] at h; cases h
   |some c0 =>
    rw [hq] at h; cases h
    exact ⟨src, c0, hq, rfl, by show (if k = dst then _ else _) = _; rw [if_pos h1], by show (if k = dst then _ else _) = _; rw [if_pos h1], .inl ⟨h1, rfl⟩⟩
  ·rw [if_neg h1] at h
   by_cases h2 : k = src
   ·rw [if_pos h2] at h; cases h
   ·rw [if_neg h2] at h
    cases hq : lookup m k with
    |none => rw [hq] at h; cases h
    |some c0 =>
     rw [hq] at h; cases h
     exact ⟨k, c0, hq, rfl, by show (if k = dst then _ else _) = _; rw [if_neg h1], by show (if k = dst then _ else _) = _; rw [if_neg h1], .inr ⟨h1, h2, rfl⟩⟩
 refine ⟨hI.sub, fun k cs hk => ?_, fun k k' cs cs' b hk hk' hb hb' => ?_, hI.tok, fun k a n c sz j cs hk hc hj => ?_, hI.toktok, hI.os, hI.tape, hI.output, hI.size, hI.old, hI.mono, hI.new, fun k hk => ?_, hI.low, ?_, hI.glob⟩
 ·obtain ⟨k0, c0, h1, rfl, h3, _, h5⟩ := hlk hk
  obtain ⟨b, ty, arr, g1, g2, g3, g4, g5⟩ := hI.slot k0 c0 h1
  refine ⟨b, ty, arr, h3.trans g1, ?_, by rw [objOf_congr (isMp_ren src dst c0)]; exact g3, g4.ren, g5⟩
  rcases g2 with g2 | g2
  ·exact .inl g2
  ·rcases h5 with ⟨_, h5⟩ | ⟨_, _, h5⟩
   ·rw [h5] at g2; omega
   ·exact .inr (by rw [← h5]; exact g2)
 ·obtain ⟨k0, c0, h1, _, h3, _, h5⟩ := hlk hk
  obtain ⟨k1, c1, h1', _, h3', _, h5'⟩ := hlk hk'
  have := hI.inj k0 k1 c0 c1 b h1 h1' (h3.symm.trans hb) (h3'.symm.trans hb')
  omega
 ·obtain ⟨k0, c0, h1, _, h3, _, _⟩ := hlk hj
  rw [h3]
  exact hI.tokslot k a n c sz k0 c0 hk hc h1
 ·show (if k = dst then _ else _) = _
  rw [if_neg (by omega)]
  exact hI.ext k hk
 ·refine ⟨fun k b cs hk hmp hb => ?_, fun k hk => ?_, hI.more.M0, fun k b cs arr ty hk hv hb hh => ?_, hI.more.drawn⟩
  ·obtain ⟨k0, c0, h1, rfl, h3, h4, _⟩ := hlk hk
   rw [isMp_ren] at hmp
   obtain ⟨arr, ty, r1, r2⟩ := hI.more.room k0 b c0 h1 hmp (h3.symm.trans hb)
   exact ⟨arr, ty, r1, by rw [h4]; exact r2⟩
  ·show (if k = dst then _ else _) = _
   rw [if_neg (by omega)]
   exact hI.more.ext k hk
  ·obtain ⟨k0, c0, h1, rfl, h3, _, _⟩ := hlk hk
   exact hI.more.vir k0 b c0 arr ty h1 (virgin_ren hv) (h3.symm.trans hb) hh
end Go.Den
namespace Go.Den

theorem lookup_box (m : Mem) (d : Nat) (cs : List AV) (k : Nat) :
  lookup (writes (scrubM [d] [] (dropAll m [d])) [(d, cs)]) k = if k = d then some cs else (lookup m k).map (AV.scrubL [d] []) := by
 simp only [writes, lookup_write, lookup_scrubM, lookup_dropAll]
 by_cases h : k = d
 ·simp [h]
 ·have : mem k [d] = false := by
   cases hb : mem k [d] with
   |false => rfl
   |true => exact absurd (by simpa using mem_iff.1 hb) h
  simp [h, this]

def X.withBox (x : X) (d g n : Nat) : X := { x with loc := fun k => if k = d then some g else x.loc k, cap := fun k => if k = d then n else x.cap k }
theorem Ext.withBox (x : X) (d g n : Nat) : Ext x (x.withBox d g n) [d] [] :=
 ⟨Sub.refl _, fun k b hk h => by
  have : k ≠ d := fun e => by subst e; simp [mem] at hk
  simp only [X.withBox, if_neg this]; exact h, fun _ _ _ h => h, fun k hk => by
  have : k ≠ d := fun e => by subst e; simp [mem] at hk
  simp only [X.withBox, if_neg this], rfl⟩
theorem Inv.withBoxO {e : Env} {x : X} {w : World} {m : Mem} (h : Inv e x w m) (d : Nat) (hd : d < 1000) (arr : Array Value) (ty : TypeId) (cs : List AV) (hvir : virgin cs = true → vtOk e.P ty = true)
  (hr : Cont (x.withBox d w.heap.size arr.size) cs arr.toList) :
  Inv e (x.withBox d w.heap.size arr.size) (w.alloc (objOf cs arr ty)) (writes (scrubM [d] [] (dropAll m [d])) [(d, cs)]) where
 sub b o v hv := by rw [World.cell?_alloc_lt _ _ _ (h.lt (b := b) (o := o) (v := v) hv)]; exact h.sub b o v hv
 slot k ds hk := by
  rw [lookup_box] at hk
  by_cases hkd : k = d
  ·rw [if_pos hkd] at hk
   obtain rfl := Option.some.inj hk
   refine ⟨w.heap.size, ty, arr, by simp [X.withBox, hkd], .inl h.size, heap_new _ _, hr, fun o => ?_⟩
   cases hm : x.M w.heap.size o with
   |none => exact hm
   |some v => exact absurd (h.lt hm) (by omega)
  ·rw [if_neg hkd] at hk
   obtain ⟨ds0, h0, rfl⟩ := Option.map_eq_some_iff.1 hk
   obtain ⟨b, t, a, h1, h2, h3, h4, h5⟩ := h.slot k ds0 h0
   have hb := (Array.getElem?_eq_some_iff.1 h3).1
   exact ⟨b, t, a, by simp only [X.withBox, if_neg hkd]; exact h1, h2, by rw [heap_old _ _ _ hb, objOf_congr (isMp_scrub [d] [] ds0)]; exact h3, h4.scrub (Ext.withBox x d _ _), h5⟩
 inj k k' ds ds' b hk hk' hb hb' := by
  rw [lookup_box] at hk hk'
  simp only [X.withBox] at hb hb'
  by_cases h1 : k = d
  ·by_cases h2 : k' = d
   ·rw [h1, h2]
   ·rw [if_pos h1] at hb; rw [if_neg h2] at hb' hk'
    obtain ⟨ds0, h0, _⟩ := Option.map_eq_some_iff.1 hk'
    obtain ⟨b2, t, a, h3, _, h4, _⟩ := h.slot k' ds0 h0
    have := (Array.getElem?_eq_some_iff.1 h4).1
    rw [h3] at hb'
    obtain rfl := Option.some.inj hb'
    have := Option.some.inj hb
    omega
  ·by_cases h2 : k' = d
   ·rw [if_pos h2] at hb'; rw [if_neg h1] at hb hk
    obtain ⟨ds0, h0, _⟩ := Option.map_eq_some_iff.1 hk
    obtain ⟨b2, t, a, h3, _, h4, _⟩ := h.slot k ds0 h0
    have := (Array.getElem?_eq_some_iff.1 h4).1
    rw [h3] at hb
    obtain rfl := Option.some.inj hb
    have := Option.some.inj hb'
    omega
   ·rw [if_neg h1] at hb hk; rw [if_neg h2] at hb' hk'
    obtain ⟨c0, h0, _⟩ := Option.map_eq_some_iff.1 hk
    obtain ⟨c1, h3, _⟩ := Option.map_eq_some_iff.1 hk'
    exact h.inj k k' c0 c1 b h0 h3 hb hb'
 tok k v sz hk a n c hv hn := by
  obtain ⟨cur, ty, h1, h2, h3, h4, h5, h6, h7⟩ := h.tok k v sz hk a n c hv hn
  have hb := (Array.getElem?_eq_some_iff.1 h4).1
  exact ⟨cur, ty, h1, h2, h3, by rw [heap_old _ _ _ hb]; exact h4, h5, h6, h7⟩
 tokslot k a n c sz j ds hk hn hj hl := by
  rw [lookup_box] at hj
  by_cases hjd : j = d
  ·simp only [X.withBox, if_pos hjd] at hl
   have := h.tokLt (k := k) hk hn
   have := Option.some.inj hl
   omega
  ·rw [if_neg hjd] at hj
   simp only [X.withBox, if_neg hjd] at hl
   obtain ⟨c0, h0, _⟩ := Option.map_eq_some_iff.1 hj
   exact h.tokslot k a n c sz j c0 hk hn h0 hl
 toktok := h.toktok
 os := h.os
 tape := h.tape
 output := h.output
 size := by have := h.size; simp; omega
 old b hb hE hL := by rw [heap_old _ _ _ (by have := h.size; omega)]; exact h.old b hb hE hL
 mono := h.mono
 new := h.new
 ext k hk := by simp only [X.withBox]; rw [if_neg (by omega)]; exact h.ext k hk
 low := h.low
 glob := h.glob
 more := by
  refine ⟨fun k b ds hk hmp hb => ?_, fun k hk => ?_, h.more.M0, fun k b ds arr0 ty0 hk hv hb hh => ?_, h.more.drawn⟩
  ·rw [lookup_box] at hk
   simp only [X.withBox] at hb ⊢
   by_cases hkd : k = d
   ·rw [if_pos hkd] at hb ⊢
    obtain rfl := Option.some.inj hb
    rw [if_pos hkd] at hk
    obtain rfl := Option.some.inj hk
    exact ⟨arr, ty, by rw [objOf_cells hmp]; exact heap_new _ _, Nat.le_refl _⟩
   ·rw [if_neg hkd] at hk hb ⊢
    obtain ⟨c0, h0, rfl⟩ := Option.map_eq_some_iff.1 hk
    rw [isMp_scrub] at hmp
    obtain ⟨arr', ty', h3, h4⟩ := h.more.room k b c0 h0 hmp hb
    exact ⟨arr', ty', by rw [heap_old _ _ _ (Array.getElem?_eq_some_iff.1 h3).1]; exact h3, h4⟩
  ·simp only [X.withBox]; rw [if_neg (by omega)]; exact h.more.ext k hk
  ·rw [lookup_box] at hk
   simp only [X.withBox] at hb
   by_cases hkd : k = d
   ·rw [if_pos hkd] at hb hk
    obtain rfl := Option.some.inj hb
    obtain rfl := Option.some.inj hk
    rw [objOf_cells (by obtain ⟨r, v, he⟩ := virgin_iff.1 hv; rw [he]; rfl), heap_new] at hh
    cases hh
    exact hvir hv
   ·rw [if_neg hkd] at hk hb
    obtain ⟨c0, h0, rfl⟩ := Option.map_eq_some_iff.1 hk
    have hmp : isMp c0 = false := by obtain ⟨r, v, he⟩ := virgin_iff.1 (virgin_scrub hv); rw [he]; rfl
    obtain ⟨arr', ty', h3, h4⟩ := h.more.room k b c0 h0 hmp hb
    rw [heap_old _ _ _ (Array.getElem?_eq_some_iff.1 h3).1] at hh
    exact h.more.vir k b c0 arr0 ty0 h0 (virgin_scrub hv) hb hh

theorem Inv.withBox {e : Env} {x : X} {w : World} {m : Mem} (h : Inv e x w m) (d : Nat) (hd : d < 1000) (arr : Array Value) (ty : TypeId) (cs : List AV) (hvir : virgin cs = true → vtOk e.P ty = true)
  (hr : Cont0 (x.withBox d w.heap.size arr.size) cs arr.toList) :
  Inv e (x.withBox d w.heap.size arr.size) (w.alloc (.cells arr ty)) (writes (scrubM [d] [] (dropAll m [d])) [(d, cs)]) := by
 have := h.withBoxO d hd arr ty cs hvir hr.cont
 rwa [objOf_cells hr.notMp] at this
theorem Inv.withSlot {e : Env} {x : X} {w : World} {m : Mem} (h : Inv e x w m) (k : Nat) (cs0 cs : List AV) (b : Nat) (hk : lookup m k = some cs0) (hb : x.loc k = some b)
  (ty : TypeId) (old arr : Array Value) (hg : w.heap[b]? = some (.cells old ty (0, 0))) (hsize : old.size ≤ arr.size) (hvir : virgin cs = true → virgin cs0 = true) (hr : Cont0 x cs arr.toList) :
  Inv e x (w.setRow b arr) (write m k cs) where
 sub b' o v hv := by
  obtain ⟨b1, _, _, h1, _, _, _, h5⟩ := h.slot k cs0 hk
  rw [hb] at h1
  obtain rfl := Option.some.inj h1
  have hne : b' ≠ b := fun e => by rw [e, h5] at hv; cases hv
  rw [World.cell?_of_block (w := w) (setRow_other w b b' _ hne)]
  exact h.sub b' o v hv
 slot j ds hj := by
  rw [lookup_write] at hj
  obtain ⟨b1, t1, a1, h1, h2, h3, h4, h5⟩ := h.slot k cs0 hk
  rw [hb] at h1
  obtain rfl := Option.some.inj h1
  by_cases hjk : j = k
  ·rw [if_pos hjk] at hj
   obtain rfl := Option.some.inj hj
   exact ⟨b, ty, arr, by rw [hjk]; exact hb, by rw [hjk]; exact h2, by rw [objOf_cells hr.notMp]; exact setRow_heap w b old _ ty _ hg, hr.cont, h5⟩
  ·rw [if_neg hjk] at hj
   obtain ⟨b2, t2, a2, h6, h7, h8, h9, h10⟩ := h.slot j ds hj
   have hne : b2 ≠ b := fun e => hjk (h.inj j k ds cs0 b hj hk (by rw [h6, e]) hb)
   exact ⟨b2, t2, a2, h6, h7, by rw [setRow_other w b b2 _ hne]; exact h8, h9, h10⟩
 inj j j' ds ds' b' hj hj' := by
  have g : ∀ {i l}, lookup (write m k cs) i = some l → ∃ l', lookup m i = some l' := by
   intro i l hi
   rw [lookup_write] at hi
   by_cases hik : i = k
   ·exact ⟨cs0, by rw [hik]; exact hk⟩
   ·rw [if_neg hik] at hi; exact ⟨l, hi⟩
  obtain ⟨l, hl⟩ := g hj
  obtain ⟨l', hl'⟩ := g hj'
  exact h.inj j j' l l' b' hl hl'
 tok j v sz hj a n c hv hn := by
  obtain ⟨cur, t, h1, h2, h3, h4, h5, h6, h7⟩ := h.tok j v sz hj a n c hv hn
  have hne : a.block ≠ b := fun e => h.tokslot j a n c sz k cs0 (by rw [hj, hv]) hn hk (by rw [e]; exact hb)
  exact ⟨cur, t, h1, h2, h3, by rw [setRow_other w b a.block _ hne]; exact h4, h5, h6, h7⟩
 tokslot j a n c sz i ds hj hn hi := by
  rw [lookup_write] at hi
  by_cases hik : i = k
  ·exact h.tokslot j a n c sz i cs0 hj hn (by rw [hik]; exact hk)
  ·rw [if_neg hik] at hi; exact h.tokslot j a n c sz i ds hj hn hi
 toktok := h.toktok
 os := h.os
 tape := h.tape
 output := h.output
 size := by have := h.size; rwa [show (w.setRow b arr).heap.size = w.heap.size by simp [World.setRow]]
 old b' hb' hE hL := by
  obtain ⟨b1, t1, a1, h1, h2, h3, h4, h5⟩ := h.slot k cs0 hk
  rw [hb] at h1
  obtain rfl := Option.some.inj h1
  have hne : b' ≠ b := fun e => by rcases h2 with h2 | h2; omega; exact hE (e ▸ h2.1)
  rw [setRow_other w b b' _ hne]; exact h.old b' hb' hE hL
 mono := h.mono
 new := h.new
 ext := h.ext
 low := h.low
 glob := h.glob
 more := by
  have hmp0 : isMp cs0 = false := by
   obtain ⟨b1, t1, a1, h1, _, h3, _⟩ := h.slot k cs0 hk
   rw [hb] at h1
   obtain rfl := Option.some.inj h1
   rw [hg] at h3
   unfold objOf at h3
   cases hm : isMp cs0 with
   |false => rfl
   |true => rw [hm] at h3; cases h3
  refine h.more.step (fun j b' ds hj hb' => ?_) (fun b' ar' t' hb' => ?_) (fun _ _ => rfl) rfl (Nat.le_refl _)
  ·rw [lookup_write] at hj
   by_cases hjk : j = k
   ·rw [if_pos hjk] at hj; cases hj; exact ⟨cs0, by rw [hjk]; exact hk, hb', rfl, hvir, fun _ => hmp0⟩
   ·rw [if_neg hjk] at hj; exact ⟨ds, hj, hb', rfl, id, id⟩
  ·by_cases hbb : b' = b
   ·subst hbb
    rw [hg] at hb'
    cases hb'
    exact ⟨arr, setRow_heap w b' old _ ty _ hg, hsize⟩
   ·exact ⟨ar', by rw [setRow_other w b b' _ hbb]; exact hb', Nat.le_refl _⟩

def X.withTok (x : X) (d : Nat) (v : Value) (sz : List Kd) (str : List Nat) : X :=
 { x with tk := fun j => if j = d then some (v, sz) else if mem j str then none else x.tk j }
theorem Ext.withTok (x : X) (d : Nat) (v : Value) (sz : List Kd) (str : List Nat) (hd : mem d str = true) : Ext x (x.withTok d v sz str) [] str :=
 ⟨Sub.refl _, fun _ _ _ h => h, fun k z hk h => by
  have : k ≠ d := fun e => by rw [e, hd] at hk; cases hk
  simp only [X.withTok, if_neg this, hk]; exact h, fun _ _ => rfl, rfl⟩
theorem Inv.withTok {e : Env} {x : X} {w : World} {m : Mem} (h : Inv e x w m) (d : Nat) (v : Value) (sz : List Kd) (str : List Nat) (hd : mem d str = true)
  (hv : TokOk e x w v sz)
  (hslot : ∀ a n c j cs, v = .slice (some a) n c → 0 < c → lookup m j = some cs → x.loc j ≠ some a.block)
  (htok : ∀ a n c j a' n' c' sz', v = .slice (some a) n c → 0 < c → mem j str = false → x.tk j = some (.slice (some a') n' c', sz') → 0 < c' → a.block ≠ a'.block) :
  Inv e (x.withTok d v sz str) w (scrubM [] str m) := by
 refine h.forget (p := []) (ks := str) (Ext.withTok x d v sz str hd) rfl (fun _ _ h => h) (fun _ _ => rfl) (fun _ _ => rfl) ?_ ?_ ?_ ?_
 ·intro k cs hk
  rw [lookup_scrubM] at hk
  obtain ⟨c0, h0, h1⟩ := Option.map_eq_some_iff.1 hk
  exact ⟨rfl, c0, h0, h1.symm⟩
 ·intro k u s hk
  simp only [X.withTok] at hk
  by_cases hkd : k = d
  ·rw [if_pos hkd] at hk; cases hk; exact hv
  ·rw [if_neg hkd] at hk
   by_cases hs : mem k str = true
   ·rw [if_pos hs] at hk; cases hk
   ·rw [if_neg hs] at hk; exact h.tok k u s hk
 ·intro k a n c s j cs hk hn hj
  simp only [X.withTok] at hk
  by_cases hkd : k = d
  ·rw [if_pos hkd] at hk
   have := Option.some.inj hk
   exact hslot a n c j cs (congrArg Prod.fst this) hn hj
  ·rw [if_neg hkd] at hk
   by_cases hs : mem k str = true
   ·rw [if_pos hs] at hk; cases hk
   ·rw [if_neg hs] at hk; exact h.tokslot k a n c s j cs hk hn hj
 ·intro k k' a n c s a' n' c' s' hk hk' hn hn' hab
  simp only [X.withTok] at hk hk'
  by_cases h1 : k = d
  ·by_cases h2 : k' = d
   ·rw [h1, h2]
   ·rw [if_pos h1] at hk; rw [if_neg h2] at hk'
    by_cases hs : mem k' str = true
    ·rw [if_pos hs] at hk'; cases hk'
    ·rw [if_neg hs] at hk'
     exact absurd hab (htok a n c k' a' n' c' s' (congrArg Prod.fst (Option.some.inj hk)) hn (by simpa using hs) hk' hn')
  ·rw [if_neg h1] at hk
   by_cases hs : mem k str = true
   ·rw [if_pos hs] at hk; cases hk
   rw [if_neg hs] at hk
   by_cases h2 : k' = d
   ·rw [if_pos h2] at hk'
    exact absurd hab.symm (htok a' n' c' k a n c s (congrArg Prod.fst (Option.some.inj hk')) hn' (by simpa using hs) hk hn)
   ·rw [if_neg h2] at hk'
    by_cases hs' : mem k' str = true
    ·rw [if_pos hs'] at hk'; cases hk'
    rw [if_neg hs'] at hk'
    exact h.toktok k k' a n c s a' n' c' s' hk hk' hn hn' hab

theorem add_addr {a : Addr} (hs : a.spot = none) (j : Nat) : a.add j = ⟨a.block, a.off + j, none⟩ := by
 obtain ⟨b, o, s⟩ := a
 simp only at hs
 subst hs
 unfold Addr.add
 split <;> simp_all

theorem RepD.rows {M : Mm} {n : Bool} {ks : List Kd} {rows : Rows} {v : Value} (h : RepD M (.sl n ks rows) v) :
  (n = true ∧ rows = [] ∧ v = .slice none 0 0) ∨ ∃ a c, n = false ∧ v = .slice (some a) rows.length c ∧ rows.length ≤ c ∧ (rows ≠ [] → a.spot = none) ∧ RowsAt M a.block a.off ks rows := by
 cases h with
 |nil => exact .inl ⟨rfl, rfl, rfl⟩
 |sl _ _ a c h1 h2 h3 => exact .inr ⟨a, c, rfl, rfl, h1, h2, h3⟩

theorem cells_of_rows {e : Env} {x : X} {w : World} {m : Mem} (h : Inv e x w m) {a : Addr} {ks : List Kd} {rows : Rows} (hs : rows ≠ [] → a.spot = none) (hr : RowsAt x.M a.block a.off ks rows) :
  ∃ vs : List Value, vs.length = rows.length * ks.length ∧ (∀ (j : Nat) (v : Value), vs[j]? = some v → x.M a.block (a.off + j) = some v) ∧ (∀ v ∈ vs, v.oneCell' = true) ∧ ∀ (j : Nat) (v : Value), vs[j]? = some v → w.cell? (a.add j) = some v := by
 obtain ⟨vs, hl, hv⟩ := hr.values
 refine ⟨vs, hl, fun j v hj => (hv j v hj).1, fun v hm => ?_, fun j v hj => ?_⟩
 ·obtain ⟨j, hj⟩ := List.getElem?_of_mem hm
  exact (hv j v hj).2
 ·by_cases hn : rows = []
  ·subst hn; simp at hl; subst hl; simp at hj
  ·rw [add_addr (hs hn)]; exact h.sub _ _ _ (hv j v hj).1

theorem RowsAt.source {M : Mm} {ks : List Kd} {rows2 : Rows} {news : List Value} {b2 o2 : Nat} (hn : RowsAt M b2 o2 ks rows2) (hnl : news.length = rows2.length * ks.length)
  (hnv : ∀ (j : Nat) (v : Value), news[j]? = some v → M b2 (o2 + j) = some v) (M2 : Mm) (hs : Sub M M2) (b o : Nat) (h : ∀ (i : Nat) (v : Value), news[i]? = some v → M2 b (o + i) = some v) : RowsAt M2 b o ks rows2 := by
 refine hn.copy hs fun j v hj hv => ?_
 have hj' : j < news.length := by omega
 have := hnv j news[j] (by simp [hj'])
 rw [hv] at this
 exact h j v (by rw [List.getElem?_eq_getElem hj']; exact this.symm ▸ rfl)

theorem append_grown {e : Env} {x : X} {w : World} {m : Mem} (h : Inv e x w m) (d : Nat) (str : List Nat) (hd : mem d str = true) (ks : List Kd) (rows rows2 : Rows) (news olds : List Value)
  (b o : Nat) (ho : RowsAt x.M b o ks rows) (hn : ∀ (M2 : Mm), Sub x.M M2 → ∀ b2 o2, (∀ (i : Nat) (v : Value), news[i]? = some v → M2 b2 (o2 + i) = some v) → RowsAt M2 b2 o2 ks rows2)
  (hol : olds.length = rows.length * ks.length) (hnl : news.length = rows2.length * ks.length)
  (hov : ∀ (j : Nat) (v : Value), olds[j]? = some v → x.M b (o + j) = some v)
  (cap : Nat) (hcap : rows.length + rows2.length ≤ cap) (hcm : cap ≤ maxLen) (arr : Array Value) (ty : TypeId) (hu8 : u8k ks = true → u8Ok e.P ty = true) (hsz : arr.size = cap * ks.length) (hpre : arr.toList.take (olds ++ news).length = olds ++ news) :
  ∃ x', Rep x' (.sl false ks (rows ++ rows2) (.tok d)) (.slice (some ⟨w.heap.size, 0, none⟩) (rows.length + rows2.length) cap) ∧
   Inv e x' (w.drew.alloc (.cells arr ty)) (scrubM [] str m) ∧ Ext x x' [] str := by
 have hcs : ∀ (j : Nat) (v : Value), (olds ++ news)[j]? = some v → arr[j]? = some v := by
  intro j v hj
  rw [← hpre, List.getElem?_take] at hj
  split at hj
  ·rw [Array.getElem?_toList] at hj; exact hj
  ·cases hj
 have h1 := h.drew.withRow arr ty (olds ++ news) hcs
 simp only [World.size_drew] at h1
 have hsub : Sub x.M (x.withRow w.heap.size (olds ++ news)).M := Sub.withRow h _
 have hMn : ∀ j, (x.withRow w.heap.size (olds ++ news)).M w.heap.size j = (olds ++ news)[j]? := by intro j; simp [X.withRow]
 have hro : RowsAt (x.withRow w.heap.size (olds ++ news)).M w.heap.size 0 ks rows := by
  refine ho.copy hsub fun j v hj hv => ?_
  rw [hMn, Nat.zero_add, List.getElem?_append_left (by omega)]
  have hj' : j < olds.length := by omega
  have := hov j olds[j] (by simp [hj'])
  rw [hv] at this
  rw [List.getElem?_eq_getElem hj']; exact this.symm ▸ rfl
 have hrn : RowsAt (x.withRow w.heap.size (olds ++ news)).M w.heap.size (0 + rows.length * ks.length) ks rows2 := by
  refine hn _ hsub _ _ fun j v hj => ?_
  rw [hMn, List.getElem?_append_right (by omega)]
  have e : 0 + rows.length * ks.length + j - olds.length = j := by omega
  rw [e]; exact hj
 have hfresh : (w.drew.alloc (.cells arr ty)).heap[w.heap.size]? = some (.cells arr ty (0, 0)) := heap_new w.drew _
 refine ⟨(x.withRow w.heap.size (olds ++ news)).withTok d (.slice (some ⟨w.heap.size, 0, none⟩) (rows.length + rows2.length) cap) ks str, ?_, h1.withTok d _ ks str hd ?_ ?_ ?_, ?_⟩
 ·refine .sl _ _ _ _ _ ?_ (by simp [RtOk, X.withTok])
  rw [← List.length_append]
  exact .sl ks (rows ++ rows2) ⟨w.heap.size, 0, none⟩ cap (by simpa using hcap) (fun _ => rfl) (hro.append hrn)
 ·intro a n c hv hlt
  injection hv with h2 h3 h4
  injection h2 with h2
  subst h2; subst h3; subst h4
  refine ⟨arr, ty, rfl, rfl, .inl h.size, hfresh, ⟨hcm, hu8⟩, Nat.le_of_eq hsz.symm, fun j hj => ?_⟩
  rw [hMn, List.getElem?_eq_none]
  simp only [List.length_append, hol, hnl]
  rw [Nat.add_mul] at hj
  exact hj
 ·intro a n c j cs hv hlt hj hl
  injection hv with h2 h3 h4
  injection h2 with h2
  subst h2
  obtain ⟨b', _, _, h5, _, h6, _⟩ := h.slot j cs hj
  have := (Array.getElem?_eq_some_iff.1 h6).1
  have h7 : x.loc j = some w.heap.size := hl
  rw [h5] at h7
  have := Option.some.inj h7
  omega
 ·intro a n c j a' n' c' sz' hv hlt hs hj hlt' hab
  injection hv with h2 h3 h4
  injection h2 with h2
  subst h2
  have := h.tokLt (k := j) hj hlt'
  simp only at hab
  omega
 ·exact ⟨hsub, fun _ _ _ h => h, (Ext.withTok (x.withRow w.heap.size (olds ++ news)) d _ ks str hd).tk, fun _ _ => rfl, rfl⟩

theorem run_append_place {P : Program} (w : World) (t ty el : TypeId) (i : TypeInfo) (ht : P.underlying t = some (.slice el)) (hi : P.info? el = some i)
  (g sLen sCap : Nat) (cur : Array Value) (tag : TypeId) (hg : w.heap[g]? = some (.cells cur tag (0, 0)))
  (a : Addr) (m c : Nat) (news : List Value) (hl : news.length = m * i.size) (hnews : ∀ (j : Nat) (u : Value), news[j]? = some u → w.cell? (a.add j) = some u) (h1 : ∀ u ∈ news, u.oneCell' = true)
  (hroom : sLen + m ≤ sCap) (hfit : sLen * i.size + news.length ≤ cur.size) :
  (Builtin.append_ #[t, t] ty #[.slice (some ⟨g, 0, none⟩) sLen sCap, .slice (some a) m c]).run P w =
   .ok (.slice (some ⟨g, 0, none⟩) (sLen + m) sCap) (w.setRow g (cur.toList.take (sLen * i.size) ++ news ++ cur.toList.drop (sLen * i.size + news.length)).toArray) := by
 have hf := run_firstCells_some (P := P) w i.size m a m c news hl hnews
 have hst := run_storeCells_at P g (sLen * i.size) tag news 0 cur w hg (by simpa using hfit) h1
 simp only [Nat.add_zero] at hst
 simp [Builtin.append_, run_underlying ht, sizeOf, typeInfo, hi, Builtin.lenOf, hroom, hf, Addr.add_lit, hst]

def X.withPart (x : X) (g lo : Nat) (cs : List Value) : X :=
 { x with M := fun b o => if b = g ∧ lo ≤ o then cs[o - lo]? else x.M b o }

theorem Right.scrub_twice {ks' ks : List Nat} (h : ∀ k, mem k ks' = true → mem k ks = true) (r : Right) : (r.scrub ks).scrub ks' = r.scrub ks := by
 cases r with
 |no => rfl
 |ex => rfl
 |old => rfl
 |tok k =>
  show (if mem k ks = true then Right.no else Right.tok k).scrub ks' = if mem k ks = true then Right.no else Right.tok k
  by_cases hk : mem k ks = true
  ·rw [if_pos hk]; rfl
  ·rw [if_neg hk]
   show (if mem k ks' = true then Right.no else Right.tok k) = _
   rw [if_neg fun hk' => hk (h k hk')]
mutual
theorem scrub_twice (ks' ks : List Nat) (h : ∀ k, mem k ks' = true → mem k ks = true) : ∀ a, AV.scrub [] ks' (AV.scrub [] ks a) = AV.scrub [] ks a
 | .dv d => rfl
 | .sl n kd rows r => by simp only [AV.scrub]; rw [Right.scrub_twice h]
 | .agg cs => by simp only [AV.scrub]; rw [scrubL_twice ks' ks h cs]
 | .tup cs => by simp only [AV.scrub]; rw [scrubL_twice ks' ks h cs]
 | .pl k off => rfl
 | .pv kd row off => rfl
 | .fn f cs => by simp only [AV.scrub]; rw [scrubL_twice ks' ks h cs]
 | .ifc t a => by simp only [AV.scrub]; rw [scrub_twice ks' ks h a]
 | .ms .. => rfl
 | .pa .. => rfl
 | .arr .. => rfl
 | .junk => rfl
theorem scrubL_twice (ks' ks : List Nat) (h : ∀ k, mem k ks' = true → mem k ks = true) : ∀ l, AV.scrubL [] ks' (AV.scrubL [] ks l) = AV.scrubL [] ks l
 |[] => rfl
 |a :: l => by simp only [AV.scrubL]; rw [scrub_twice ks' ks h a, scrubL_twice ks' ks h l]
end

theorem append_place {e : Env} {x : X} {w : World} {m : Mem} (h : Inv e x w m) (d j : Nat) (ks : List Kd) (rows rows2 : Rows) (news : List Value)
  (g cap : Nat) (cur : Array Value) (tag : TypeId)
  (hj : x.tk j = some (.slice (some ⟨g, 0, none⟩) rows.length cap, ks)) (hlt : rows.length < cap) (hg : w.heap[g]? = some (.cells cur tag (0, 0))) (hcm : cap ≤ maxLen) (hu8 : u8k ks = true → u8Ok e.P tag = true) (hsz : cap * ks.length ≤ cur.size)
  (hfree : ∀ i, rows.length * ks.length ≤ i → x.M g i = none) (hbase : e.w0.heap.size ≤ g ∨ g ∈ e.L)
  (ho : RowsAt x.M g 0 ks rows) (hn : ∀ (M2 : Mm), Sub x.M M2 → ∀ b2 o2, (∀ (i : Nat) (v : Value), news[i]? = some v → M2 b2 (o2 + i) = some v) → RowsAt M2 b2 o2 ks rows2) (hnl : news.length = rows2.length * ks.length)
  (hroom : rows.length + rows2.length ≤ cap) :
  ∃ x', Rep x' (.sl false ks (rows ++ rows2) (.tok d)) (.slice (some ⟨g, 0, none⟩) (rows.length + rows2.length) cap) ∧
   Inv e x' (w.setRow g (cur.toList.take (rows.length * ks.length) ++ news ++ cur.toList.drop (rows.length * ks.length + news.length)).toArray) (scrubM [] [d, j] m) ∧ Ext x x' [] [d, j] := by
 generalize hA : (cur.toList.take (rows.length * ks.length) ++ news ++ cur.toList.drop (rows.length * ks.length + news.length)).toArray = arr
 have hpos : 0 < cap := by omega
 have hfit : rows.length * ks.length + news.length ≤ cur.size := by rw [hnl, ← Nat.add_mul]; exact Nat.le_trans (Nat.mul_le_mul_right _ hroom) hsz
 have harr : arr.size = cur.size := by
  rw [← hA]
  simp only [List.size_toArray, List.length_append, List.length_take, List.length_drop, Array.length_toList]
  omega
 have hpre : ∀ i, i < rows.length * ks.length → arr[i]? = cur[i]? := by
  intro i hi
  rw [← hA]
  simp only [List.getElem?_toArray]
  rw [List.append_assoc, List.getElem?_append_left (by simp only [List.length_take, Array.length_toList]; omega), List.getElem?_take, if_pos hi, Array.getElem?_toList]
 have hmid : ∀ i, i < news.length → arr[rows.length * ks.length + i]? = news[i]? := by
  intro i hi
  rw [← hA]
  simp only [List.getElem?_toArray]
  rw [List.append_assoc, List.getElem?_append_right (by simp only [List.length_take, Array.length_toList]; omega)]
  have e1 : rows.length * ks.length + i - (cur.toList.take (rows.length * ks.length)).length = i := by simp only [List.length_take, Array.length_toList]; omega
  rw [e1, List.getElem?_append_left hi]
 have hg' := setRow_heap w g cur arr tag _ hg
 have hsub : Sub x.M (x.withPart g (rows.length * ks.length) news).M := by
  intro b o v hv
  simp only [X.withPart]
  rw [if_neg]
  ·exact hv
  ·rintro ⟨rfl, h2⟩; rw [hfree o h2] at hv; cases hv
 have hnslot : ∀ k cs, lookup m k = some cs → x.loc k ≠ some g := fun k cs hk => h.tokslot j ⟨g, 0, none⟩ rows.length cap ks k cs hj hpos hk
 have hsize : (w.setRow g arr).heap.size = w.heap.size := by simp [World.setRow]
 have h1 : Inv e (x.withPart g (rows.length * ks.length) news) (w.setRow g arr) (scrubM [] [d, j] m) → True := fun _ => trivial
 have hold : ∀ k, k ≠ g → (w.setRow g arr).heap[k]? = w.heap[k]? := fun k hk => setRow_other w g k _ hk
 -- the world, x's tokens as they are but j's (which is struck below)
 have key : Inv e { x.withPart g (rows.length * ks.length) news with tk := fun i => if mem i [d, j] then none else x.tk i } (w.setRow g arr) (scrubM [] [d, j] m) := by
  have hext : Ext x { x.withPart g (rows.length * ks.length) news with tk := fun i => if mem i [d, j] then none else x.tk i } [] [d, j] :=
   ⟨hsub, fun _ _ _ h => h, fun k z hk hz => by simp only [hk]; exact hz, fun _ _ => rfl, rfl⟩
  have hlook : ∀ {k cs}, lookup (scrubM [] [d, j] m) k = some cs → ∃ c0, lookup m k = some c0 ∧ cs = AV.scrubL [] [d, j] c0 := by
   intro k cs hk
   rw [lookup_scrubM] at hk
   obtain ⟨c0, h0, h1⟩ := Option.map_eq_some_iff.1 hk
   exact ⟨c0, h0, h1.symm⟩
  have htk : ∀ {k z}, (if mem k [d, j] then none else x.tk k) = some z → mem k [d, j] = false ∧ x.tk k = some z := by
   intro k z hz
   by_cases hs : mem k [d, j] = true
   ·rw [if_pos hs] at hz; cases hz
   ·rw [if_neg hs] at hz; exact ⟨by simpa using hs, hz⟩
  have hnj : ∀ {k : Nat}, mem k [d, j] = false → k ≠ j := by intro k hk e; subst e; simp [mem] at hk
  refine ⟨?_, ?_, ?_, ?_, ?_, ?_, h.os, h.tape, h.output, by rw [hsize]; exact h.size, ?_, h.mono.trans hsub, ?_, h.ext, h.low, h.more.step (fun k b cs hk hb => by
   obtain ⟨c0, h0, hc⟩ := hlook hk
   exact ⟨c0, h0, hb, rfl, fun hv => virgin_scrub (hc ▸ hv), fun hv => by rw [hc, isMp_scrub] at hv; exact hv⟩) (fun b ar ty hb => by
   by_cases hbg : b = g
   ·subst hbg; rw [hg] at hb; cases hb; exact ⟨arr, hg', by omega⟩
   ·exact ⟨ar, by rw [hold b hbg]; exact hb, Nat.le_refl _⟩) (fun _ _ => rfl) rfl (Nat.le_refl _), h.glob⟩
  ·intro b o v hv
   simp only [X.withPart] at hv
   by_cases hb : b = g
   ·subst hb
    have hc : (w.setRow b arr).cell? ⟨b, o, none⟩ = arr[o]? := cell_setRow_same w b o cur arr tag _ hg
    rw [hc]
    by_cases ho2 : rows.length * ks.length ≤ o
    ·rw [if_pos ⟨rfl, ho2⟩] at hv
     have hlt2 : o - rows.length * ks.length < news.length := (List.getElem?_eq_some_iff.1 hv).1
     have := hmid (o - rows.length * ks.length) hlt2
     rw [show rows.length * ks.length + (o - rows.length * ks.length) = o by omega] at this
     rw [this]; exact hv
    ·rw [if_neg (fun h => ho2 h.2)] at hv
     have hcell := h.sub b o v hv
     rw [hpre o (by omega)]
     simpa [World.cell?, hg] using hcell
   ·rw [if_neg (fun h => hb h.1)] at hv
    rw [World.cell?_of_block (w := w) (hold b hb)]
    exact h.sub b o v hv
  ·intro k cs hk
   obtain ⟨c0, h0, rfl⟩ := hlook hk
   obtain ⟨b, t, a, h2, h3, h4, h5, h6⟩ := h.slot k c0 h0
   have hne : b ≠ g := fun e => hnslot k c0 h0 (by rw [h2, e])
   refine ⟨b, t, a, h2, h3, by rw [hold b hne, objOf_congr (isMp_scrub [] [d, j] c0)]; exact h4, h5.scrub hext, fun o => ?_⟩
   simp only [X.withPart]; rw [if_neg (fun h => hne h.1)]; exact h6 o
  ·intro k k' cs cs' b hk hk' hb hb'
   obtain ⟨c0, h0, _⟩ := hlook hk
   obtain ⟨c1, h2, _⟩ := hlook hk'
   exact h.inj k k' c0 c1 b h0 h2 hb hb'
  ·intro k v sz hk a n c hv hn2
   obtain ⟨hs, hk'⟩ := htk hk
   obtain ⟨cur2, t2, h2, h3, h4, h5, h6, h7, h8⟩ := h.tok k v sz hk' a n c hv hn2
   have hne : a.block ≠ g := fun e => hnj hs (h.toktok k j a n c sz ⟨g, 0, none⟩ rows.length cap ks (by rw [hk', hv]) hj hn2 hpos e)
   refine ⟨cur2, t2, h2, h3, h4, by rw [hold _ hne]; exact h5, h6, h7, fun i hi => ?_⟩
   simp only [X.withPart]; rw [if_neg (fun h => hne h.1)]; exact h8 i hi
  ·intro k a n c sz i cs hk hn2 hi
   obtain ⟨_, hk'⟩ := htk hk
   obtain ⟨c0, h0, _⟩ := hlook hi
   exact h.tokslot k a n c sz i c0 hk' hn2 h0
  ·intro k k' a n c sz a' n' c' sz' hk hk'
   exact h.toktok k k' a n c sz a' n' c' sz' (htk hk).2 (htk hk').2
  ·intro b hb hE hL
   have hbg : b ≠ g := by
    rintro rfl
    rcases hbase with h1 | h1
    ·omega
    ·exact hL h1
   rw [hold b hbg]; exact h.old b hb hE hL
  ·intro b o v hv
   simp only [X.withPart] at hv
   by_cases hb : b = g
   ·right; rw [hb]; exact hbase
   ·rw [if_neg (fun h => hb h.1)] at hv; exact h.new b o v hv
 have hdm : mem d [d, j] = true := by simp [mem]
 refine ⟨{ x.withPart g (rows.length * ks.length) news with tk := fun i => if i = d then some (.slice (some ⟨g, 0, none⟩) (rows.length + rows2.length) cap, ks) else if mem i [d, j] then none else x.tk i }, ?_, ?_, ?_⟩
 ·refine .sl _ _ _ _ _ ?_ (by simp [RtOk])
  rw [← List.length_append]
  refine .sl ks (rows ++ rows2) ⟨g, 0, none⟩ cap (by simpa using hroom) (fun _ => rfl) ((ho.mono hsub).append (hn _ hsub _ _ fun i v hi => ?_))
  simp only [X.withPart]
  rw [if_pos ⟨trivial, by omega⟩]
  have e1 : 0 + rows.length * ks.length + i - rows.length * ks.length = i := by omega
  rw [e1]; exact hi
 ·have h2 := key.withTok d (.slice (some ⟨g, 0, none⟩) (rows.length + rows2.length) cap) ks [d] (by simp [mem]) ?_ ?_ ?_
  ·have e1 : ({ x.withPart g (rows.length * ks.length) news with tk := fun i => if mem i [d, j] then none else x.tk i } : X).withTok d (.slice (some ⟨g, 0, none⟩) (rows.length + rows2.length) cap) ks [d] =
     { x.withPart g (rows.length * ks.length) news with tk := fun i => if i = d then some (.slice (some ⟨g, 0, none⟩) (rows.length + rows2.length) cap, ks) else if mem i [d, j] then none else x.tk i } := by
    simp only [X.withTok]
    congr 1
    funext i
    by_cases hi : i = d
    ·simp [hi]
    ·have : mem i [d] = false := by
      cases hb : mem i [d] with
      |false => rfl
      |true => exact absurd (by simpa using mem_iff.1 hb) hi
     simp [hi, this]
   rw [e1] at h2
   refine h2.congr fun k => ?_
   rw [lookup_scrubM [] [d], lookup_scrubM]
   cases lookup m k with
   |none => rfl
   |some cs => simp only [Option.map_some]; rw [scrubL_twice [d] [d, j] (by intro k hk; simp only [mem, Bool.or_false] at hk ⊢; simp [hk])]
  ·intro a n c hv hn2
   injection hv with h3 h4 h5
   injection h3 with h3
   subst h3; subst h4; subst h5
   refine ⟨arr, tag, rfl, rfl, hbase, hg', ⟨hcm, hu8⟩, by rw [harr]; exact hsz, fun i hi => ?_⟩
   simp only [X.withPart]
   rw [if_pos ⟨trivial, by rw [Nat.add_mul] at hi; omega⟩, List.getElem?_eq_none]
   rw [Nat.add_mul] at hi; omega
  ·intro a n c i cs hv hn2 hi
   injection hv with h3 h4 h5
   injection h3 with h3
   subst h3
   rw [lookup_scrubM] at hi
   obtain ⟨c0, h0, _⟩ := Option.map_eq_some_iff.1 hi
   exact hnslot i c0 h0
  ·intro a n c i a' n' c' sz' hv hn2 hs hi hn3 hab
   injection hv with h3 h4 h5
   injection h3 with h3
   subst h3
   simp only at hi
   by_cases hs2 : mem i [d, j] = true
   ·rw [if_pos hs2] at hi; cases hi
   ·rw [if_neg hs2] at hi
    have := h.toktok i j a' n' c' sz' ⟨g, 0, none⟩ rows.length cap ks hi hj hn3 hpos hab.symm
    subst this
    simp [mem] at hs2
 ·refine ⟨hsub, fun _ _ _ h => h, fun k z hk hz => ?_, fun _ _ => rfl, rfl⟩
  have : k ≠ d := fun e => by subst e; simp [mem] at hk
  simp only [if_neg this, hk]
  exact hz

theorem run_append_zero {P : Program} (w : World) (t ty el : TypeId) (i : TypeInfo) (ht : P.underlying t = some (.slice el)) (hi : P.info? el = some i) (base : Option Addr) (n c : Nat) (hnc : n ≤ c) (u : Value)
  (hu : u = .slice none 0 0 ∨ ∃ a c2, u = .slice (some a) 0 c2) : (Builtin.append_ #[t, t] ty #[.slice base n c, u]).run P w = .ok (.slice base n c) w := by
 rcases hu with rfl | ⟨a, c2, rfl⟩ <;> cases base <;>
  simp [Builtin.append_, run_underlying ht, sizeOf, typeInfo, hi, Builtin.lenOf, Builtin.firstCells, loadCells, loadCellsFrom, storeCells, hnc]

theorem append_ok {e : Env} {x : X} {w : World} {m : Mem} (h : Inv e x w m) {d : Nat} {n n2 : Bool} {ks : List Kd} {rows rows2 : Rows} {r r2 : Right} {str : List Nat} {v u : Value}
  (hs : Rep x (.sl n ks rows r) v) (hu : Rep x (.sl n2 ks rows2 r2) u) (hstr : appendRight d r = some str)
  {t ty el : TypeId} {i : TypeInfo} {z : Value} (ht : e.P.underlying t = some (.slice el)) (hi : e.P.info? el = some i) (hz : i.zero = some z) (hisz : i.size = ks.length) (hzs : z.cells.size = i.size)
  (hby : 0 < i.bytes) (hu8 : u8k ks = true → u8Ok e.P el = true) (hbytes : (rows.length + rows2.length) * i.bytes ≤ 140737488355328) :
  ∃ v' w' x', (Builtin.append_ #[t, t] ty #[v, u]).run e.P w = .ok v' w' ∧ Rep x' (.sl (n && rows2.isEmpty) ks (rows ++ rows2) (appTok d r rows rows2)) v' ∧ Inv e x' w' (scrubM [] str m) ∧ Ext x x' [] str := by
 have hlen : rows.length + rows2.length ≤ 140737488355328 := Nat.le_trans (Nat.le_mul_of_pos_right _ hby) hbytes
 have h63 : rows.length + rows2.length ≤ maxLen := by unfold maxLen; omega
 have hd : mem d str = true := by
  cases r with
  |no => simp [appendRight] at hstr
  |old => simp [appendRight] at hstr
  |ex => simp only [appendRight, Option.some.injEq] at hstr; subst hstr; simp [mem]
  |tok j => simp only [appendRight, Option.some.injEq] at hstr; subst hstr; simp [mem]
 cases hs with
 |sl _ _ _ _ _ hs hr =>
 cases hu with
 |sl _ _ _ _ _ hu _ =>
 by_cases hm : rows2 = []
 ·subst hm
  have hu' : u = .slice none 0 0 ∨ ∃ a c2, u = .slice (some a) 0 c2 := by
   rcases hu.rows with ⟨_, _, rfl⟩ | ⟨a, c2, _, rfl, _⟩
   ·exact .inl rfl
   ·exact .inr ⟨a, c2, rfl⟩
  obtain ⟨base, c, hv, hc⟩ : ∃ base c, v = .slice base rows.length c ∧ rows.length ≤ c := by
   rcases hs.rows with ⟨_, rfl, rfl⟩ | ⟨a, c, _, rfl, hc, _⟩
   ·exact ⟨none, 0, rfl, Nat.le_refl _⟩
   ·exact ⟨some a, c, rfl, hc⟩
  have hrun : (Builtin.append_ #[t, t] ty #[v, u]).run e.P w = .ok v w := by rw [hv]; exact run_append_zero w t ty el i ht hi base _ c hc u hu'
  simp only [List.isEmpty_nil, Bool.and_true, List.append_nil]
  cases r with
  |no => simp [appendRight] at hstr
  |old => simp [appendRight] at hstr
  |tok i =>
   refine ⟨v, w, x.withTok d v ks str, hrun, .sl _ _ _ _ _ hs (by simp [RtOk, X.withTok, appTok]), h.withTok d v ks str hd (h.tok i v _ hr) ?_ ?_, Ext.withTok x d v ks str hd⟩
   ·intro a n' c' j cs h1 h2 h3
    exact h.tokslot i a n' c' _ j cs (by rw [← h1]; exact hr) h2 h3
   ·intro a n' c' j a' n2' c2' sz' h1 h2 h3 h4 h5 h6
    simp only [appendRight, Option.some.injEq] at hstr
    subst hstr
    have := h.toktok i j a n' c' _ a' n2' c2' sz' (by rw [← h1]; exact hr) h4 h2 h5 h6
    subst this
    simp [mem] at h3
  |ex =>
   obtain ⟨a', n', hv'⟩ := hr
   by_cases hre : rows = []
   ·subst hre
    have hzero : ∀ a n c, v = .slice (some a) n c → ¬ 0 < c := by
     intro a n2 c2 h1 h2
     rw [hv'] at h1 hv
     injection hv with _ h3 h4
     injection h1 with _ h5 h6
     simp only [List.length_nil] at h3
     omega
    exact ⟨v, w, x.withTok d v ks str, hrun, .sl _ _ _ _ _ hs (by simp [RtOk, X.withTok, appTok]), h.withTok d v ks str hd (fun a n c h1 h2 => absurd h2 (hzero a n c h1)) (fun a n c j cs h1 h2 => absurd h2 (hzero a n c h1)) (fun a n c j a' n' c' sz' h1 h2 => absurd h2 (hzero a n c h1)), Ext.withTok x d v ks str hd⟩
   ·have hne : rows.isEmpty = false := by cases rows with | nil => exact absurd rfl hre | cons => rfl
    have hna : ∀ a n c, (Value.slice none 0 0) ≠ .slice (some a) n c := fun a n c h => by injection h with h1; cases h1
    exact ⟨v, w, x.withTok d (.slice none 0 0) ks str, hrun, .sl _ _ _ _ _ hs (by have hex : appTok d .ex rows [] = .ex := (by simp [appTok, hne]); rw [hex]; exact ⟨a', n', hv'⟩), h.withTok d (.slice none 0 0) ks str hd (fun a n c h1 => absurd h1 (hna a n c)) (fun a n c j cs h1 => absurd h1 (hna a n c)) (fun a n c j a' n' c' sz' h1 => absurd h1 (hna a n c)), Ext.withTok x d _ ks str hd⟩
 ·have hemp : rows2.isEmpty = false := by cases rows2 with | nil => exact absurd rfl hm | cons => rfl
  have hpos : 0 < rows2.length := by cases rows2 with | nil => exact absurd rfl hm | cons => simp
  rcases hu.rows with ⟨_, h1, _⟩ | ⟨a2, c2, _, rfl, hc2, hsp2, hr2⟩
  ·exact absurd h1 hm
  obtain ⟨news, hnl, hnv, hn1, hncell⟩ := cells_of_rows h hsp2 hr2
  have happ : appTok d r rows rows2 = .tok d := by
   cases r with
   |no => simp [appendRight] at hstr
   |old => simp [appendRight] at hstr
   |ex => simp [appTok, hemp]
   |tok j => rfl
  rw [hemp, Bool.and_false, happ]
  rcases hs.rows with ⟨_, rfl, rfl⟩ | ⟨a, c, _, rfl, hc, hsp, hro⟩
  ·have hrun := run_append_nil (P := e.P) w t ty el i z ht hi hz a2 rows2.length c2 news (by rw [hisz]; exact hnl) hncell hpos (by simp only [List.length_nil] at hlen; omega) (by simp only [List.length_nil, Nat.zero_add] at hbytes; omega)
   have hge := grownCap_ge w rows2.length 0 el
   have hcm := grownCap_le_maxLen w rows2.length 0 el (by simp only [List.length_nil, Nat.zero_add] at h63; exact h63)
   obtain ⟨x', q1, q2, q3⟩ := append_grown h d str hd ks [] rows2 news [] 0 0 (.nil 0 0 ks) (hr2.source hnl hnv) (by simp) hnl (by simp) (grownCap w rows2.length 0 el) (by simpa using hge) hcm
    (news.toArray ++ Builtin.zeroCells z.cells (grownCap w rows2.length 0 el - rows2.length)) el hu8
    (by simp only [Array.size_append, List.size_toArray, size_zeroCells, hzs, hisz, hnl, ← Nat.add_mul]; congr 1; omega)
    (by simp only [Array.toList_append, List.nil_append]; exact List.take_left)
   simp only [List.length_nil, Nat.zero_add] at q1
   exact ⟨_, _, x', hrun, q1, q2, q3⟩
  ·obtain ⟨olds, hol, hov, ho1, hocell⟩ := cells_of_rows h hsp hro
   by_cases hroom : rows.length + rows2.length ≤ c
   ·cases r with
    |no => simp [appendRight] at hstr
    |old => simp [appendRight] at hstr
    |ex => obtain ⟨a', n', h1⟩ := hr; injection h1 with _ h3 h4; omega
    |tok j =>
     simp only [appendRight, Option.some.injEq] at hstr
     subst hstr
     obtain ⟨cur, tag, h1, h2, h3, h4, h5, h6, h7⟩ := h.tok j _ _ hr a rows.length c rfl (by omega)
     obtain ⟨g, off, sp⟩ := a
     simp only at h1 h2
     subst h1; subst h2
     have hfit : rows.length * i.size + news.length ≤ cur.size := by rw [hnl, hisz, ← Nat.add_mul]; exact Nat.le_trans (Nat.mul_le_mul_right _ hroom) h6
     have hrun := run_append_place (P := e.P) w t ty el i ht hi g rows.length c cur tag h4 a2 rows2.length c2 news (by rw [hisz]; exact hnl) hncell hn1 hroom hfit
     rw [hisz] at hrun
     obtain ⟨x', q1, q2, q3⟩ := append_place h d j ks rows rows2 news g c cur tag hr (by omega) h4 h5.1 h5.2 h6 h7 h3 hro (hr2.source hnl hnv) hnl hroom
     exact ⟨_, _, x', hrun, q1, q2, q3⟩
   ·have hrun := run_append_grow (P := e.P) w t ty el i z ht hi hz a rows.length c olds (by rw [hisz]; exact hol) hocell a2 rows2.length c2 news (by rw [hisz]; exact hnl) hncell (by omega) (by omega) (growslice_fits (by omega) hbytes)
    have hge := grownCap_ge w (rows.length + rows2.length) c el
    have hcm := grownCap_le_maxLen w (rows.length + rows2.length) c el h63
    obtain ⟨x', q1, q2, q3⟩ := append_grown h d str hd ks rows rows2 news olds a.block a.off hro (hr2.source hnl hnv) hol hnl hov (grownCap w (rows.length + rows2.length) c el) hge hcm
     (olds.toArray ++ news.toArray ++ Builtin.zeroCells z.cells (grownCap w (rows.length + rows2.length) c el - (rows.length + rows2.length))) el hu8
     (by simp only [Array.size_append, List.size_toArray, size_zeroCells, hzs, hisz, hnl, hol, ← Nat.add_mul]; congr 1; omega)
     (by simp only [Array.toList_append]; exact List.take_left)
    exact ⟨_, _, x', hrun, q1, q2, q3⟩
end Go.Den
namespace Go.Den
open Go.Lib (strCells strCells_length strCells_oneCell run_firstCells_string run_append_grow_string)
theorem run_append_room_str {P : Program} (w : World) (t u ty e : TypeId) (i : TypeInfo) (ht : P.underlying t = some (.slice e)) (hu : P.underlying u = some .string) (hi : P.info? e = some i) (hs1 : i.size = 1)
  (g sLen sCap : Nat) (cur : Array Value) (tag : TypeId) (hg : w.heap[g]? = some (.cells cur tag (0, 0))) (s : ByteArray)
  (hroom : sLen + s.size ≤ sCap) (hfit : sLen + s.size ≤ cur.size) :
  (Builtin.append_ #[t, u] ty #[.slice (some ⟨g, 0, none⟩) sLen sCap, .string s]).run P w =
   .ok (.slice (some ⟨g, 0, none⟩) (sLen + s.size) sCap) (w.setRow g (cur.toList.take sLen ++ strCells s ++ cur.toList.drop (sLen + s.size)).toArray) := by
 have hf := run_firstCells_string (P := P) w 1 s
 have hst := run_storeCells_at P g sLen tag (strCells s) 0 cur w hg (by simpa [strCells_length] using hfit) (strCells_oneCell s)
 simp only [Nat.add_zero, strCells_length] at hst
 simp [Builtin.append_, run_underlying ht, run_underlying hu, sizeOf, typeInfo, hi, hs1, Builtin.lenOf, hroom, hf, Addr.add_lit, hst]
theorem run_append_none_str {P : Program} (w : World) (t u ty el : TypeId) (i : TypeInfo) (ht : P.underlying t = some (.slice el)) (hu : P.underlying u = some .string) (hi : P.info? el = some i) (base : Option Addr) (n c : Nat) (hnc : n ≤ c) (s : ByteArray)
  (h0 : s.size = 0) : (Builtin.append_ #[t, u] ty #[.slice base n c, .string s]).run P w = .ok (.slice base n c) w := by
 have hf := run_firstCells_string (P := P) w i.size s
 have hn : strCells s = [] := List.eq_nil_of_length_eq_zero (by rw [strCells_length]; exact h0)
 rw [h0, hn] at hf
 cases base <;> simp [Builtin.append_, run_underlying ht, run_underlying hu, sizeOf, typeInfo, hi, Builtin.lenOf, h0, hf, storeCells, hnc]
theorem byteRows_length (s : ByteArray) : (byteRows s).length = s.size := by
 simp [byteRows]
theorem strCells_map (s : ByteArray) : strCells s = s.data.toList.map fun b => Value.int .u8 b.toNat := rfl
theorem byteRows_at (M2 : Mm) : ∀ (l : List UInt8) (b o : Nat), (∀ (i : Nat) (v : Value), (l.map fun b => Value.int .u8 b.toNat)[i]? = some v → M2 b (o + i) = some v) → RowsAt M2 b o [.i .u8] (l.map fun b => [.val (.int .u8 b.toNat)])
 |[], b, o, _ => .nil b o _
 |c :: l, b, o, h => by
  refine .cons b o [.i .u8] [.val (.int .u8 c.toNat)] _ rfl (.cons b o _ (.int .u8 c.toNat) [] (h 0 _ rfl) (.val _ rfl) (.nil _ _)) (byteRows_at M2 l b (o + 1) fun i v hi => ?_)
  have := h (i + 1) v (by simpa using hi)
  rw [← this]; congr 1; omega
theorem append_str {e : Env} {x : X} {w : World} {m : Mem} (h : Inv e x w m) {d : Nat} {n : Bool} {rows : Rows} {r : Right} {str : List Nat} {v : Value} {s : ByteArray}
  (hs : Rep x (.sl n [.i .u8] rows r) v) (hstr : appendRight d r = some str)
  {t u ty el : TypeId} {i : TypeInfo} {z : Value} (ht : e.P.underlying t = some (.slice el)) (hu : e.P.underlying u = some .string) (hi : e.P.info? el = some i) (hz : i.zero = some z) (hisz : i.size = 1) (hzs : z.cells.size = i.size)
  (hby : 0 < i.bytes) (hu8 : u8Ok e.P el = true) (hbytes : (rows.length + s.size) * i.bytes ≤ 140737488355328) :
  ∃ v' w' x', (Builtin.append_ #[t, u] ty #[v, .string s]).run e.P w = .ok v' w' ∧ Rep x' (.sl (n && s.size == 0) [.i .u8] (rows ++ byteRows s) (appTok d r rows (byteRows s))) v' ∧ Inv e x' w' (scrubM [] str m) ∧ Ext x x' [] str := by
 have hlen : rows.length + s.size ≤ 140737488355328 := Nat.le_trans (Nat.le_mul_of_pos_right _ hby) hbytes
 have h63 : rows.length + s.size ≤ maxLen := by unfold maxLen; omega
 have hd : mem d str = true := by
  cases r with
  |no => simp [appendRight] at hstr
  |old => simp [appendRight] at hstr
  |ex => simp only [appendRight, Option.some.injEq] at hstr; subst hstr; simp [mem]
  |tok j => simp only [appendRight, Option.some.injEq] at hstr; subst hstr; simp [mem]
 cases hs with
 |sl _ _ _ _ _ hs hr =>
 have hnl : (strCells s).length = (byteRows s).length * [Kd.i .u8].length := by rw [strCells_length, byteRows_length]; simp
 have hsrc : ∀ (M2 : Mm), Sub x.M M2 → ∀ b2 o2, (∀ (i : Nat) (v : Value), (strCells s)[i]? = some v → M2 b2 (o2 + i) = some v) → RowsAt M2 b2 o2 [.i .u8] (byteRows s) := fun M2 _ b2 o2 hm => byteRows_at M2 _ b2 o2 hm
 by_cases hm : s.size = 0
 ·have hb0 : byteRows s = [] := List.eq_nil_of_length_eq_zero (by rw [byteRows_length]; exact hm)
  obtain ⟨base, c, hv, hc⟩ : ∃ base c, v = .slice base rows.length c ∧ rows.length ≤ c := by
   rcases hs.rows with ⟨_, rfl, rfl⟩ | ⟨a, c, _, rfl, hc, _⟩
   ·exact ⟨none, 0, rfl, Nat.le_refl _⟩
   ·exact ⟨some a, c, rfl, hc⟩
  have hrun : (Builtin.append_ #[t, u] ty #[v, .string s]).run e.P w = .ok v w := by rw [hv]; exact run_append_none_str w t u ty el i ht hu hi base _ c hc s hm
  have hz0 : (s.size == 0) = true := by simpa using hm
  rw [hz0, hb0]
  simp only [Bool.and_true, List.append_nil]
  cases r with
  |no => simp [appendRight] at hstr
  |old => simp [appendRight] at hstr
  |tok i =>
   refine ⟨v, w, x.withTok d v [.i .u8] str, hrun, .sl _ _ _ _ _ hs (by simp [RtOk, X.withTok, appTok]), h.withTok d v [.i .u8] str hd (h.tok i v _ hr) ?_ ?_, Ext.withTok x d v [.i .u8] str hd⟩
   ·intro a n' c' j cs h1 h2 h3
    exact h.tokslot i a n' c' _ j cs (by rw [← h1]; exact hr) h2 h3
   ·intro a n' c' j a' n2' c2' sz' h1 h2 h3 h4 h5 h6
    simp only [appendRight, Option.some.injEq] at hstr
    subst hstr
    have := h.toktok i j a n' c' _ a' n2' c2' sz' (by rw [← h1]; exact hr) h4 h2 h5 h6
    subst this
    simp [mem] at h3
  |ex =>
   obtain ⟨a', n', hv'⟩ := hr
   by_cases hre : rows = []
   ·subst hre
    have hzero : ∀ a n c, v = .slice (some a) n c → ¬ 0 < c := by
     intro a n2 c2 h1 h2
     rw [hv'] at h1 hv
     injection hv with _ h3 h4
     injection h1 with _ h5 h6
     simp only [List.length_nil] at h3
     omega
    exact ⟨v, w, x.withTok d v [.i .u8] str, hrun, .sl _ _ _ _ _ hs (by simp [RtOk, X.withTok, appTok]), h.withTok d v [.i .u8] str hd (fun a n c h1 h2 => absurd h2 (hzero a n c h1)) (fun a n c j cs h1 h2 => absurd h2 (hzero a n c h1)) (fun a n c j a' n' c' sz' h1 h2 => absurd h2 (hzero a n c h1)), Ext.withTok x d v [.i .u8] str hd⟩
   ·have hne : rows.isEmpty = false := by cases rows with | nil => exact absurd rfl hre | cons => rfl
    have hna : ∀ a n c, (Value.slice none 0 0) ≠ .slice (some a) n c := fun a n c h => by injection h with h1; cases h1
    exact ⟨v, w, x.withTok d (.slice none 0 0) [.i .u8] str, hrun, .sl _ _ _ _ _ hs (by have hex : appTok d .ex rows [] = .ex := (by simp [appTok, hne]); rw [hex]; exact ⟨a', n', hv'⟩), h.withTok d (.slice none 0 0) [.i .u8] str hd (fun a n c h1 => absurd h1 (hna a n c)) (fun a n c j cs h1 => absurd h1 (hna a n c)) (fun a n c j a' n' c' sz' h1 => absurd h1 (hna a n c)), Ext.withTok x d _ [.i .u8] str hd⟩
 ·have hemp : (byteRows s).isEmpty = false := by
   cases hb : byteRows s with
   |nil => have := byteRows_length s; rw [hb] at this; exact absurd this.symm hm
   |cons => rfl
  have hz0 : (s.size == 0) = false := by simpa using hm
  have happ : appTok d r rows (byteRows s) = .tok d := by
   cases r with
   |no => simp [appendRight] at hstr
   |old => simp [appendRight] at hstr
   |ex => simp [appTok, hemp]
   |tok j => rfl
  rw [hz0, Bool.and_false, happ]
  rcases hs.rows with ⟨_, rfl, rfl⟩ | ⟨a, c, _, rfl, hc, hsp, hro⟩
  ·have hrun := run_append_nil_string (P := e.P) w t u ty el i z ht hu hi hz s (by omega) (by simp only [List.length_nil] at hlen; omega) (by simp only [List.length_nil, Nat.zero_add] at hbytes; omega)
   have hge := grownCap_ge w s.size 0 el
   have hcm := grownCap_le_maxLen w s.size 0 el (by simp only [List.length_nil, Nat.zero_add] at h63; exact h63)
   obtain ⟨x', q1, q2, q3⟩ := append_grown h d str hd [.i .u8] [] (byteRows s) (strCells s) [] 0 0 (.nil 0 0 _) hsrc (by simp) hnl (by simp) (grownCap w s.size 0 el) (by rw [byteRows_length]; simpa using hge) hcm
    (s.data.map (fun b => Value.int .u8 b.toNat) ++ Builtin.zeroCells z.cells (grownCap w s.size 0 el - s.size)) el (fun _ => hu8)
    (by
     have hsz : s.data.size = s.size := rfl
     simp only [Array.size_append, Array.size_map, size_zeroCells, hzs, hisz, hsz, List.length_cons, List.length_nil]; omega)
    (by
     simp only [Array.toList_append, List.nil_append, Array.toList_map]
     rw [strCells_map]
     exact List.take_left)
   simp only [List.length_nil, Nat.zero_add, byteRows_length] at q1
   exact ⟨_, _, x', hrun, q1, q2, q3⟩
  ·obtain ⟨olds, hol, hov, ho1, hocell⟩ := cells_of_rows h hsp hro
   by_cases hroom : rows.length + s.size ≤ c
   ·cases r with
    |no => simp [appendRight] at hstr
    |old => simp [appendRight] at hstr
    |ex => obtain ⟨a', n', h1⟩ := hr; injection h1 with _ h3 h4; omega
    |tok j =>
     simp only [appendRight, Option.some.injEq] at hstr
     subst hstr
     obtain ⟨cur, tag, h1, h2, h3, h4, h5, h6, h7⟩ := h.tok j _ _ hr a rows.length c rfl (by omega)
     obtain ⟨g, off, sp⟩ := a
     simp only at h1 h2
     subst h1; subst h2
     have hfit : rows.length + s.size ≤ cur.size := by simp only [List.length_cons, List.length_nil] at h6; omega
     have hrun := run_append_room_str (P := e.P) w t u ty el i ht hu hi hisz g rows.length c cur tag h4 s hroom hfit
     obtain ⟨x', q1, q2, q3⟩ := append_place h d j [.i .u8] rows (byteRows s) (strCells s) g c cur tag hr (by omega) h4 h5.1 h5.2 h6 h7 h3 hro hsrc hnl (by rw [byteRows_length]; exact hroom)
     simp only [byteRows_length, List.length_cons, List.length_nil, Nat.zero_add, Nat.mul_one, strCells_length] at q1 q2
     exact ⟨_, _, x', hrun, q1, q2, q3⟩
   ·have hrun := run_append_grow_string (P := e.P) w t u ty el i z ht hu hi hz a rows.length c olds (by rw [hisz]; simpa using hol) hocell s (by omega) (by omega) (growslice_fits (by omega) hbytes)
    have hge := grownCap_ge w (rows.length + s.size) c el
    have hcm := grownCap_le_maxLen w (rows.length + s.size) c el h63
    obtain ⟨x', q1, q2, q3⟩ := append_grown h d str hd [.i .u8] rows (byteRows s) (strCells s) olds a.block a.off hro hsrc hol hnl hov (grownCap w (rows.length + s.size) c el) (by rw [byteRows_length]; exact hge) hcm
     (olds.toArray ++ (strCells s).toArray ++ Builtin.zeroCells z.cells (grownCap w (rows.length + s.size) c el - (rows.length + s.size))) el (fun _ => hu8)
     (by
      have : olds.length = rows.length := by simpa using hol
      simp only [Array.size_append, List.size_toArray, size_zeroCells, hzs, hisz, strCells_length, this, List.length_cons, List.length_nil]; omega)
     (by simp only [Array.toList_append]; exact List.take_left)
    rw [byteRows_length] at q1
    exact ⟨_, _, x', hrun, q1, q2, q3⟩
end Go.Den
namespace Go.Den
variable {e : Env} {x : X} {w : World} {m : Mem} {tm : List AV} {a : Act} {o : Oper} {next : Act → World → Prop} {Q : Exit → Act → World → Prop}

theorem wp_value {v : Value} {w' : World} (h : (execOp a.eval o).run e.P w = .ok (.value v) w') (hn : next (a.put o.dst v) w') : o.wp e.P a w next Q := by
  unfold Oper.wp; rw [h]; exact hn
theorem wp_skip {w' : World} (h : (execOp a.eval o).run e.P w = .ok .skip w') (hn : next (a.put o.dst undef) w') : o.wp e.P a w next Q := by
  unfold Oper.wp; rw [h]; exact hn

theorem ofConst_rep {P : Program} {t : TypeId} {v : Value} {av : AV} (h : ofConst P t v = some av) (x : X) : Rep x av v := by
  unfold ofConst at h
  split at h
  · cases h; exact .dv _ _ (.val _ rfl)
  · cases h; exact .dv _ _ (.val _ rfl)
  · cases h; exact .dv _ _ (.val _ rfl)
  · cases h; exact .dv _ _ (.val _ rfl)
  · cases h; exact .dv _ _ (.val _ rfl)
  · cases h; exact .dv _ _ (.val _ rfl)
  · split at h
    · split at h
      · cases h; exact .sl _ _ _ _ _ (.nil _) ⟨none, 0, rfl⟩
      · cases h
    · cases h
  · cases h
theorem evT_rep {P : Program} (hT : RepL x tm a.tmps.toList) {t : TypeId} {y : Operand} {av : AV} (h : evT P tm t y = some av) : Rep x av (a.eval y) := by
  cases y with
  | tmp i =>
    simp only [evT] at h
    obtain ⟨v, hv, hr⟩ := hT.get h
    simp only [Act.eval]
    rw [Array.getElem?_toList] at hv
    rw [Array.getD_eq_getD_getElem?, hv]; exact hr
  | const v => exact ofConst_rep h x
  | global g => simp [evT] at h
  | func f => simp only [evT, Option.some.injEq] at h; subst h; exact .fn f [] [] .nil
theorem evs_rep {P : Program} (hT : RepL x tm a.tmps.toList) : ∀ {ts : List TypeId} {ys : List Operand} {avs : List AV}, evs P tm ts ys = some avs → RepL x avs (ys.map a.eval)
  | _, [], avs, h => by simp only [evs, Option.some.injEq] at h; subst h; exact .nil
  | [], y :: ys, avs, h => by
    simp only [evs] at h
    split at h
    · rename_i av h1
      split at h
      · rename_i l h2; cases h; exact .cons _ _ _ _ (evT_rep hT h1) (evs_rep hT h2)
      · cases h
    · cases h
  | t :: ts, y :: ys, avs, h => by
    simp only [evs] at h
    split at h
    · rename_i av h1
      split at h
      · rename_i l h2; cases h; exact .cons _ _ _ _ (evT_rep hT h1) (evs_rep hT h2)
      · cases h
    · cases h

theorem Rep.val {v u : Value} (h : Rep x (.dv (.val v)) u) : u = v := by cases h with | dv _ _ h => cases h; rfl
theorem rep_val (x : X) {v : Value} (h : v.oneCell' = true) : Rep x (.dv (.val v)) v := .dv _ _ (.val _ h)

theorem zeroAVs_rep (x : X) : ∀ {ks : List Kd} {vs : List Value} {cs : List AV}, zeroAVs ks vs = some cs → RepL x cs vs
  | [], [], cs, h => by simp only [zeroAVs, Option.some.injEq] at h; subst h; exact .nil
  | [], v :: vs, cs, h => by simp [zeroAVs] at h
  | k :: ks, [], cs, h => by cases k <;> simp [zeroAVs] at h
  | k :: ks, v :: vs, cs, h => by
    have ih := @zeroAVs_rep x ks vs
    unfold zeroAVs at h
    split at h <;> try (cases h; done)
    all_goals try (rename_i heq _; cases heq; done)
    all_goals
      rename_i h1 h2
      cases h1; cases h2
      first
      | (split at h
         · rename_i l hl
           cases h
           refine .cons _ _ _ _ ?_ (ih hl)
           first | exact rep_val x rfl | exact .sl _ _ _ _ _ (.nil _) ⟨none, 0, rfl⟩
         · cases h)
      | (split at h
         · rename_i hk
           subst hk
           split at h
           · rename_i l hl
             cases h
             refine .cons _ _ _ _ ?_ (ih hl)
             exact rep_val x rfl
           · cases h
         · cases h)
theorem zeroOf_rep {P : Program} (x : X) {t : TypeId} {cs : List AV} (h : zeroOf P t = some cs) : ∃ i z, P.info? t = some i ∧ i.zero = some z ∧ RepL x cs z.cells.toList := by
  unfold zeroOf at h
  split at h
  · rename_i i hi
    split at h
    · rename_i z hz
      split at h
      · exact ⟨i, z, hi, hz, zeroAVs_rep x h⟩
      · cases h
    · cases h
  · cases h
end Go.Den
