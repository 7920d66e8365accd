import Derived.Test.YtamalelonhdfaaaDen23
import Derived.Test.YtamalelonhdfaaaS11
import Derived.Test.YtamalelonhdfaaaProg
import Derived.KernelRfl
namespace Go.Den
open Go.Proofs
set_option maxRecDepth 100000
noncomputable def σ12 : Spec := sp 10 g10 (sp 11 g10 (sp 28 g28 Spec.none))
noncomputable def Φ12 (n : Nat) : Orc := with_ Try.prog σ12 [(30, [], []), (31, [], []), (35, [], [])] n 1 []

theorem f12_e (n : Nat) (v : ByteArray) (b : Bool) (i : Int) (s : ByteArray) (cb : Bool) (ci : Int) (cs : ByteArray) (nl : Bool) (rows : Rows) : denFn Try.prog (Φ12 n) ([] : Live) n Try.f12 false [AV.agg [AV.dv (DV.val (Value.string v)), AV.dv (DV.val (Value.bool b)), AV.dv (DV.val (Value.int IntKind.i64 i)), AV.dv (DV.val (Value.string s))], AV.agg [AV.dv (DV.val (Value.bool cb)), AV.dv (DV.val (Value.int IntKind.i64 ci)), AV.dv (DV.val (Value.string cs))], AV.sl nl [Kd.s, Kd.b, Kd.i IntKind.i64, Kd.s] rows Right.no] [] some =
  if List.length rows < 4611686018427387904 then
    bif Prod.fst (val v b i s rows) then
      bif !(Prod.fst (Prod.snd (val v b i s rows)) == cb && (Prod.fst (Prod.snd (Prod.snd (val v b i s rows))) == ci && (Prod.snd (Prod.snd (Prod.snd (val v b i s rows))) == cs && true))) then
        some (Out.mk false (AV.tup [AV.sl true [Kd.s, Kd.b, Kd.i IntKind.i64, Kd.s] [] Right.no, AV.dv (DV.val (Value.bool false))]) [])
      else bif nl then
        some (Out.mk false (AV.tup [AV.sl true [Kd.s, Kd.b, Kd.i IntKind.i64, Kd.s] [] Right.no, AV.dv (DV.val (Value.bool true))]) [])
      else if 0 + List.length rows < 2147483648 then
        some (Out.mk false (AV.tup [AV.sl (false && List.isEmpty rows) [Kd.s, Kd.b, Kd.i IntKind.i64, Kd.s] ([] ++ rows) Right.no, AV.dv (DV.val (Value.bool true))]) [])
      else none
    else bif v == ByteArray.mk #[] then
      some (Out.mk false (AV.tup [AV.sl true [Kd.s, Kd.b, Kd.i IntKind.i64, Kd.s] [] Right.no, AV.dv (DV.val (Value.bool false))]) [])
    else bif nl then
      some (Out.mk false (AV.tup [AV.sl (true && List.isEmpty [[DV.val (Value.string v), DV.val (Value.bool cb), DV.val (Value.int IntKind.i64 ci), DV.val (Value.string cs)]]) [Kd.s, Kd.b, Kd.i IntKind.i64, Kd.s] [[DV.val (Value.string v), DV.val (Value.bool cb), DV.val (Value.int IntKind.i64 ci), DV.val (Value.string cs)]] Right.no, AV.dv (DV.val (Value.bool true))]) [])
    else if 0 + List.length rows < 2147483648 then
      if List.length ([] ++ rows) + List.length [[DV.val (Value.string v), DV.val (Value.bool cb), DV.val (Value.int IntKind.i64 ci), DV.val (Value.string cs)]] < 2147483648 then
        some (Out.mk false (AV.tup [AV.sl (false && List.isEmpty rows && List.isEmpty [[DV.val (Value.string v), DV.val (Value.bool cb), DV.val (Value.int IntKind.i64 ci), DV.val (Value.string cs)]]) [Kd.s, Kd.b, Kd.i IntKind.i64, Kd.s] ([] ++ rows ++ [[DV.val (Value.string v), DV.val (Value.bool cb), DV.val (Value.int IntKind.i64 ci), DV.val (Value.string cs)]]) Right.no, AV.dv (DV.val (Value.bool true))]) [])
      else none
    else none
  else none := by kernel_rfl
theorem f13_e (n : Nat) (v : ByteArray) (b : Bool) (i : Int) (s : ByteArray) (cb : Bool) (ci : Int) (cs : ByteArray) (nl : Bool) (rows : Rows) : denFn Try.prog (Φ12 n) ([] : Live) n Try.f13 false [AV.agg [AV.dv (DV.val (Value.string v)), AV.dv (DV.val (Value.bool b)), AV.dv (DV.val (Value.int IntKind.i64 i)), AV.dv (DV.val (Value.string s))], AV.agg [AV.dv (DV.val (Value.bool cb)), AV.dv (DV.val (Value.int IntKind.i64 ci)), AV.dv (DV.val (Value.string cs))], AV.sl nl [Kd.s, Kd.b, Kd.i IntKind.i64, Kd.s] rows Right.no] [] some =
  if List.length rows < 4611686018427387904 then
    if 0 + List.length rows < 2147483648 then
      bif Prod.fst (val v b i s rows) then
        bif Prod.fst (Prod.snd (val v b i s rows)) == cb && (Prod.fst (Prod.snd (Prod.snd (val v b i s rows))) == ci && (Prod.snd (Prod.snd (Prod.snd (val v b i s rows))) == cs && true)) then
          some (Out.mk false (AV.tup [AV.sl (false && List.isEmpty rows) [Kd.s, Kd.b, Kd.i IntKind.i64, Kd.s] ([] ++ rows) Right.no, AV.dv (DV.val (Value.bool true))]) [])
        else some (Out.mk false (AV.tup [AV.sl true [Kd.s, Kd.b, Kd.i IntKind.i64, Kd.s] [] Right.no, AV.dv (DV.val (Value.bool false))]) [])
      else bif v == ByteArray.mk #[] && (b == false && (i == 0 && (s == ByteArray.mk #[] && true))) then
        some (Out.mk false (AV.tup [AV.sl true [Kd.s, Kd.b, Kd.i IntKind.i64, Kd.s] [] Right.no, AV.dv (DV.val (Value.bool false))]) [])
      else if List.length ([] ++ rows) + List.length [[DV.val (Value.string v), DV.val (Value.bool cb), DV.val (Value.int IntKind.i64 ci), DV.val (Value.string cs)]] < 2147483648 then
        some (Out.mk false (AV.tup [AV.sl (false && List.isEmpty rows && List.isEmpty [[DV.val (Value.string v), DV.val (Value.bool cb), DV.val (Value.int IntKind.i64 ci), DV.val (Value.string cs)]]) [Kd.s, Kd.b, Kd.i IntKind.i64, Kd.s] ([] ++ rows ++ [[DV.val (Value.string v), DV.val (Value.bool cb), DV.val (Value.int IntKind.i64 ci), DV.val (Value.string cs)]]) Right.no, AV.dv (DV.val (Value.bool true))]) [])
      else none
    else none
  else none := by kernel_rfl

end Go.Den
