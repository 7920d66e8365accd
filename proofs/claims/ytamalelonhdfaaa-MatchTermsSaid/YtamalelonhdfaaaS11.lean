import Derived.Test.YtamalelonhdfaaaDen0
namespace Go.Den
def kB : List Kd := [.s, .b, .i .i64, .s]
/-- Where a name is bound. -/
def lookN (v : ByteArray) : Rows → Int
  | [] => -1
  | r :: l => if Row.S r 0 == v then 0 else if lookN v l < 0 then -1 else lookN v l + 1

def g28 : Spec1 := fun _ args ext K => match args, ext with
  | [.sl _ ks rows .no, .fn g [.pl k o]], [[.dv (.val (.string v)), .dv (.val (.bool b)), .dv (.val (.int .i64 i)), .dv (.val (.string s))]] =>
    if Nat.beq g 29 && Nat.beq k 1000 && Nat.beq o 0 && Kd.sameL ks kB then
      if rows.length < big then K ⟨false, .I .i64 (lookN v rows), [[.S v, .B b, .I .i64 i, .S s]]⟩ else none
    else none
  | _, _ => none
def noS : ByteArray := ByteArray.mk #[]
def nilT (v : ByteArray) (b : Bool) (i : Int) (s : ByteArray) : Bool := v == noS && (b == false && (i == 0 && (s == noS && true)))
/-- A term's value: is there one; its cells. -/
def val (v : ByteArray) (b : Bool) (i : Int) (s : ByteArray) (rows : Rows) : Bool × Bool × Int × ByteArray :=
  bif nilT v b i s then (false, false, 0, noS)
  else bif v == noS then (true, b, i, s)
  else bif decide (lookN v rows < 0) then (false, false, 0, noS)
  else (true, Row.B (rows.getD (lookN v rows).toNat []) 1, Row.I (rows.getD (lookN v rows).toNat []) 2, Row.S (rows.getD (lookN v rows).toNat []) 3)
def outV (p : Bool × Bool × Int × ByteArray) : Out := ⟨false, .tup [.agg [.B p.2.1, .I .i64 p.2.2.1, .S p.2.2.2], .B p.1], []⟩
def g10 : Spec1 := fun _ args ext K => match args, ext with
  | [.agg [.dv (.val (.string v)), .dv (.val (.bool b)), .dv (.val (.int .i64 i)), .dv (.val (.string s))], .sl _ ks rows .no], [] =>
    if Kd.sameL ks kB then if rows.length < big then K (outV (val v b i s rows)) else none else none
  | _, _ => none
def cap : Nat := 1000000000
def sameC (p : Bool × Int × ByteArray) (cb : Bool) (ci : Int) (cs : ByteArray) : Bool := p.1 == cb && (p.2.1 == ci && (p.2.2 == cs && true))
def bindRow (v : ByteArray) (cb : Bool) (ci : Int) (cs : ByteArray) : Row := [.val (.string v), .val (.bool cb), .val (.int .i64 ci), .val (.string cs)]
/-- Does it unify? and by which bindings then. -/
def uni (v : ByteArray) (b : Bool) (i : Int) (s : ByteArray) (cb : Bool) (ci : Int) (cs : ByteArray) (rows : Rows) : Bool × Rows :=
  bif (val v b i s rows).1 then bif sameC (val v b i s rows).2 cb ci cs then (true, rows) else (false, [])
  else bif nilT v b i s then (false, []) else (true, rows ++ [bindRow v cb ci cs])
/-- Is the answer nil? (the code's own Unify, and the document's) -/
def uniNl (mine : Bool) (v : ByteArray) (b : Bool) (i : Int) (s : ByteArray) (cb : Bool) (ci : Int) (cs : ByteArray) (nl : Bool) (rows : Rows) : Bool :=
  bif (val v b i s rows).1 then bif sameC (val v b i s rows).2 cb ci cs then mine && nl else true
  else bif nilT v b i s then true else false
def gUni (mine : Bool) : Spec1 := fun _ args ext K => match args, ext with
  | [.agg [.dv (.val (.string v)), .dv (.val (.bool b)), .dv (.val (.int .i64 i)), .dv (.val (.string s))], .agg [.dv (.val (.bool cb)), .dv (.val (.int .i64 ci)), .dv (.val (.string cs))], .sl nl ks rows .no], [] =>
    if Kd.sameL ks kB then if rows.length < cap then
      K ⟨false, .tup [.sl (uniNl mine v b i s cb ci cs nl rows) kB (uni v b i s cb ci cs rows).2 .no, .B (uni v b i s cb ci cs rows).1], []⟩ else none else none
  | _, _ => none
def eqBind (a b : Row) : Bool := Row.S a 0 == Row.S b 0 && (Row.B a 1 == Row.B b 1 && (Row.I a 2 == Row.I b 2 && (Row.S a 3 == Row.S b 3 && true)))
def like : Rows → Rows → Bool
  | [], [] => true
  | a :: l, b :: m => eqBind a b && like l m
  | _, _ => false
def g14 : Spec1 := fun _ args ext K => match args, ext with
  | [.sl _ ks rows .no, .sl _ ks2 rows2 .no], [] =>
    if Kd.sameL ks kB && Kd.sameL ks2 kB then if rows.length < big then K ⟨false, .B (like rows rows2), []⟩ else none else none
  | _, _ => none
def gLive : Spec1 := fun _ args ext K => match args, ext with
  | [], [] => K ⟨false, .B true, []⟩
  | _, _ => none
end Go.Den
