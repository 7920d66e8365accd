import Derived.Test.YtamalelonhdfaaaDen23
import Derived.Test.YtamalelonhdfaaaS11
import Derived.Test.YtamalelonhdfaaaProg
import Derived.KernelRfl
namespace Go.Den
open Go.Proofs
set_option maxRecDepth 100000
noncomputable def σ3 : Spec := sp 9 gLive (sp 10 g10 (sp 11 g10 (sp 12 (gUni true) (sp 13 (gUni false) (sp 14 g14 Spec.none)))))
noncomputable def Φ3 (n : Nat) : Orc := with_ Try.prog σ3 [] n 0 []

theorem f3_e (n : Nat) (v : ByteArray) (b : Bool) (i : Int) (s : ByteArray) (cb : Bool) (ci : Int) (cs : ByteArray) (nl : Bool) (rows : Rows) : denFn Try.prog (Φ3 n) ([] : Live) n Try.f3 false [AV.agg [AV.dv (DV.val (Value.string v)), AV.dv (DV.val (Value.bool b)), AV.dv (DV.val (Value.int IntKind.i64 i)), AV.dv (DV.val (Value.string s))], AV.agg [AV.dv (DV.val (Value.bool cb)), AV.dv (DV.val (Value.int IntKind.i64 ci)), AV.dv (DV.val (Value.string cs))], AV.sl nl [Kd.s, Kd.b, Kd.i IntKind.i64, Kd.s] rows Right.no] [] some =
  bif decide ((↑(List.length rows) : Int) > 200) then
    some (Out.mk false (AV.dv (DV.val (Value.bool true))) [])
  else if 0 + List.length rows < 2147483648 then
    if List.length ([] ++ rows) < 4611686018427387904 then
      if List.length rows < 4611686018427387904 then
        if List.length ([] ++ rows) < 1000000000 then
          if List.length rows < 1000000000 then
            bif Prod.fst (Prod.snd (val v b i s ([] ++ rows))) == Prod.fst (Prod.snd (val v b i s rows)) && (Prod.fst (Prod.snd (Prod.snd (val v b i s ([] ++ rows)))) == Prod.fst (Prod.snd (Prod.snd (val v b i s rows))) && (Prod.snd (Prod.snd (Prod.snd (val v b i s ([] ++ rows)))) == Prod.snd (Prod.snd (Prod.snd (val v b i s rows))) && true)) then
              bif Prod.fst (val v b i s ([] ++ rows)) == Prod.fst (val v b i s rows) then
                if List.length (Prod.snd (uni v b i s cb ci cs ([] ++ rows))) < 4611686018427387904 then
                  bif like (Prod.snd (uni v b i s cb ci cs ([] ++ rows))) (Prod.snd (uni v b i s cb ci cs rows)) then
                    bif Prod.fst (uni v b i s cb ci cs ([] ++ rows)) == Prod.fst (uni v b i s cb ci cs rows) then
                      if List.length ([] ++ rows) < 4611686018427387904 then
                        bif like ([] ++ rows) rows then
                          some (Out.mk false (AV.dv (DV.val (Value.bool true))) [])
                        else some (Out.mk false (AV.dv (DV.val (Value.bool false))) [])
                      else none
                    else some (Out.mk false (AV.dv (DV.val (Value.bool false))) [])
                  else some (Out.mk false (AV.dv (DV.val (Value.bool false))) [])
                else none
              else some (Out.mk false (AV.dv (DV.val (Value.bool false))) [])
            else some (Out.mk false (AV.dv (DV.val (Value.bool false))) [])
          else none
        else none
      else none
    else none
  else none := by kernel_rfl

end Go.Den
