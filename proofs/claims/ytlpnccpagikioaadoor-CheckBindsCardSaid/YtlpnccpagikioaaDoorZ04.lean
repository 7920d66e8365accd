import Derived.Test.YtlpnccpagikioaaDoorZ03
import Derived.Test.YtlpnccpagikioaaDoorProg
import Derived.KernelRfl
import Derived.Shelf.Strconv.Itoa3
import Derived.Shelf.RegionOpenPlain
import Derived.Lib.Strings
import Derived.Lib.Slices
import Derived.Lib.Walk
import Derived.Lib.Builder
import Derived.Lib.AppendStr
import Derived.Lib.UnsafeStr
import Derived.WalkKit
import Derived.BigCall
import Derived.Laws.Externs
import Derived.Laws.IdiomCopy
set_option linter.unusedVariables false
set_option linter.unusedSimpArgs false
set_option linter.unusedSectionVars false
namespace Go.Den
open Go.Proofs
set_option maxRecDepth 100000
@[reducible] def kdT : List Kd := [Kd.s, Kd.b, Kd.i IntKind.i64, Kd.s]
@[reducible] def kdL : List Kd := [Kd.s, Kd.b, Kd.i IntKind.i64, Kd.s, Kd.s, Kd.sl kdT, Kd.s, Kd.b, Kd.i IntKind.i64, Kd.s]
@[reducible] def kdR : List Kd := [Kd.s, Kd.b, Kd.i IntKind.i64, Kd.s, Kd.s, Kd.sl kdT, Kd.s, Kd.b, Kd.i IntKind.i64, Kd.s, Kd.sl kdL]
@[reducible] def kdC : List Kd := [Kd.b, Kd.i IntKind.i64, Kd.s]
@[reducible] def kdF : List Kd := [Kd.s, Kd.s, Kd.s, Kd.sl kdC]
@[reducible] def kdK : List Kd := [Kd.i IntKind.i64, Kd.s, Kd.i IntKind.i64, Kd.i IntKind.i64]
@[reducible] def zI : AV := AV.dv (DV.val (Value.int IntKind.i64 0))
@[reducible] def zS : AV := AV.dv (DV.val (Value.string (ByteArray.mk #[])))
@[reducible] def zB : AV := AV.dv (DV.val (Value.bool false))
@[reducible] def zP : AV := AV.dv (DV.val (Value.pointer none))
@[reducible] def z8 : AV := AV.dv (DV.val (Value.int IntKind.u8 0))
@[reducible] def zN : AV := AV.dv (DV.val Value.nilIface)
@[reducible] def zF : AV := AV.dv (DV.val Value.nilFunc)
@[reducible] def zL : List Kd → Rows → Right → AV := AV.sl true
@[reducible] def kdO : List Kd := [Kd.o]
@[reducible] def Jk : AV := AV.junk
@[reducible] def hsL : List Nat := [1000042, 1000043, 1000044, 1000045, 1000046, 1000056, 1000059, 1000067]
theorem mixed : Tryd.prog.follows .mixedOrders = true := by kernel_rfl
noncomputable def tm_kds : BT (Option (List Kd)) := .node 79 (.node 39 (.node 19 (.node 9 (.node 4 (.node 2 (.node 1 (.one 0 (none)) (.one 1 (some kdO))) (.node 3 (.one 2 (some [Kd.i IntKind.i64])) (.one 3 (some [Kd.i IntKind.i64])))) (.node 6 (.node 5 (.one 4 (some [Kd.b])) (.one 5 (some [Kd.i IntKind.u8]))) (.node 7 (.one 6 (some [Kd.i IntKind.u8])) (.node 8 (.one 7 (some [Kd.i IntKind.i64, Kd.i IntKind.i64, Kd.b, Kd.i IntKind.u8])) (.one 8 (some [Kd.i IntKind.i64, Kd.i IntKind.i64, Kd.b, Kd.i IntKind.u8])))))) (.node 14 (.node 11 (.node 10 (.one 9 (some [Kd.s])) (.one 10 (some [Kd.s]))) (.node 12 (.one 11 (some [Kd.s])) (.node 13 (.one 12 (some [Kd.i IntKind.u64])) (.one 13 (some [Kd.s, Kd.i IntKind.u64]))))) (.node 16 (.node 15 (.one 14 (some [Kd.s, Kd.i IntKind.u64])) (.one 15 (some kdO))) (.node 17 (.one 16 (some kdO)) (.node 18 (.one 17 (some kdO)) (.one 18 (some kdO))))))) (.node 29 (.node 24 (.node 21 (.node 20 (.one 19 (some kdO)) (.one 20 (some kdO))) (.node 22 (.one 21 (some [Kd.i IntKind.i32])) (.node 23 (.one 22 (some kdC)) (.one 23 (some kdC))))) (.node 26 (.node 25 (.one 24 (some kdT)) (.one 25 (some kdT))) (.node 27 (.one 26 (some kdO)) (.node 28 (.one 27 (some [Kd.i IntKind.i64])) (.one 28 (none)))))) (.node 34 (.node 31 (.node 30 (.one 29 (some kdO)) (.one 30 (some kdO))) (.node 32 (.one 31 (some [Kd.s, Kd.b, Kd.i IntKind.i64, Kd.s, Kd.s, Kd.b, Kd.i IntKind.i64, Kd.s])) (.node 33 (.one 32 (some [Kd.sl kdT])) (.one 33 (some [Kd.sl kdL]))))) (.node 36 (.node 35 (.one 34 (some kdR)) (.one 35 (some kdR))) (.node 37 (.one 36 (some kdO)) (.node 38 (.one 37 (some [Kd.sl kdR])) (.one 38 (some kdO)))))))) (.node 59 (.node 49 (.node 44 (.node 41 (.node 40 (.one 39 (some kdO)) (.one 40 (some kdO))) (.node 42 (.one 41 (some kdO)) (.node 43 (.one 42 (some kdO)) (.one 43 (some kdO))))) (.node 46 (.node 45 (.one 44 (some kdO)) (.one 45 (some kdO))) (.node 47 (.one 46 (some kdO)) (.node 48 (.one 47 (none)) (.one 48 (some kdO)))))) (.node 54 (.node 51 (.node 50 (.one 49 (some kdO)) (.one 50 (some [Kd.sl [Kd.s]]))) (.node 52 (.one 51 (some kdO)) (.node 53 (.one 52 (some kdO)) (.one 53 (some kdO))))) (.node 56 (.node 55 (.one 54 (some [Kd.i IntKind.u64])) (.one 55 (none))) (.node 57 (.one 56 (some kdO)) (.node 58 (.one 57 (some kdO)) (.one 58 (some kdO))))))) (.node 69 (.node 64 (.node 61 (.node 60 (.one 59 (some kdO)) (.one 60 (some kdO))) (.node 62 (.one 61 (some kdL)) (.node 63 (.one 62 (some kdL)) (.one 63 (some kdO))))) (.node 66 (.node 65 (.one 64 (some kdO)) (.one 65 (some kdO))) (.node 67 (.one 66 (some kdO)) (.node 68 (.one 67 (some kdO)) (.one 68 (some kdO)))))) (.node 74 (.node 71 (.node 70 (.one 69 (some [Kd.sl [Kd.i IntKind.u8]])) (.one 70 (some [Kd.o, Kd.sl [Kd.i IntKind.u8]]))) (.node 72 (.one 71 (some [Kd.o, Kd.sl [Kd.i IntKind.u8]])) (.node 73 (.one 72 (some [Kd.o, Kd.sl [Kd.i IntKind.u8], Kd.b])) (.one 73 (some [Kd.o, Kd.sl [Kd.i IntKind.u8], Kd.b]))))) (.node 76 (.node 75 (.one 74 (some kdO)) (.one 75 (some kdO))) (.node 77 (.one 76 (some kdO)) (.node 78 (.one 77 (none)) (.one 78 (some kdO))))))))) (.node 118 (.node 98 (.node 88 (.node 83 (.node 81 (.node 80 (.one 79 (some kdO)) (.one 80 (some kdO))) (.node 82 (.one 81 (some kdO)) (.one 82 (some kdO)))) (.node 85 (.node 84 (.one 83 (none)) (.one 84 (some kdO))) (.node 86 (.one 85 (some kdO)) (.node 87 (.one 86 (some [Kd.sl kdK])) (.one 87 (none)))))) (.node 93 (.node 90 (.node 89 (.one 88 (some kdO)) (.one 89 (some kdO))) (.node 91 (.one 90 (some [Kd.sl kdK, Kd.i IntKind.i64])) (.node 92 (.one 91 (some [Kd.sl kdK, Kd.i IntKind.i64])) (.one 92 (some [Kd.i IntKind.i64, Kd.i IntKind.i64]))))) (.node 95 (.node 94 (.one 93 (some [Kd.i IntKind.i64, Kd.i IntKind.i64])) (.one 94 (some kdO))) (.node 96 (.one 95 (some kdO)) (.node 97 (.one 96 (some kdO)) (.one 97 (some kdO))))))) (.node 108 (.node 103 (.node 100 (.node 99 (.one 98 (some kdO)) (.one 99 (some kdO))) (.node 101 (.one 100 (some kdO)) (.node 102 (.one 101 (some kdO)) (.one 102 (some kdO))))) (.node 105 (.node 104 (.one 103 (some kdO)) (.one 104 (some kdK))) (.node 106 (.one 105 (some kdK)) (.node 107 (.one 106 (some kdO)) (.one 107 (some kdO)))))) (.node 113 (.node 110 (.node 109 (.one 108 (some kdO)) (.one 109 (none))) (.node 111 (.one 110 (some kdO)) (.node 112 (.one 111 (some kdO)) (.one 112 (some kdO))))) (.node 115 (.node 114 (.one 113 (some kdO)) (.one 114 (some kdO))) (.node 116 (.one 115 (some kdO)) (.node 117 (.one 116 (some kdO)) (.one 117 (some kdO)))))))) (.node 138 (.node 128 (.node 123 (.node 120 (.node 119 (.one 118 (some kdO)) (.one 119 (none))) (.node 121 (.one 120 (some kdO)) (.node 122 (.one 121 (some kdO)) (.one 122 (some kdO))))) (.node 125 (.node 124 (.one 123 (none)) (.one 124 (some kdO))) (.node 126 (.one 125 (some kdO)) (.node 127 (.one 126 (some kdO)) (.one 127 (none)))))) (.node 133 (.node 130 (.node 129 (.one 128 (some kdO)) (.one 129 (some kdO))) (.node 131 (.one 130 (some [Kd.i IntKind.u8, Kd.i IntKind.u8, Kd.i IntKind.u8, Kd.i IntKind.u8, Kd.i IntKind.u8, Kd.i IntKind.u8, Kd.i IntKind.u8, Kd.i IntKind.u8, Kd.i IntKind.u8, Kd.i IntKind.u8, Kd.i IntKind.u8, Kd.i IntKind.u8, Kd.i IntKind.u8, Kd.i IntKind.u8, Kd.i IntKind.u8, Kd.i IntKind.u8, Kd.i IntKind.u8, Kd.i IntKind.u8, Kd.i IntKind.u8, Kd.i IntKind.u8, Kd.i IntKind.u8, Kd.i IntKind.u8, Kd.i IntKind.u8, Kd.i IntKind.u8])) (.node 132 (.one 131 (some [Kd.i IntKind.u64])) (.one 132 (some kdO))))) (.node 135 (.node 134 (.one 133 (some kdO)) (.one 134 (none))) (.node 136 (.one 135 (some kdO)) (.node 137 (.one 136 (some kdO)) (.one 137 (some kdO))))))) (.node 148 (.node 143 (.node 140 (.node 139 (.one 138 (some [Kd.i IntKind.u64, Kd.i IntKind.u64, Kd.i IntKind.u64, Kd.i IntKind.u64, Kd.i IntKind.u64, Kd.i IntKind.u64, Kd.i IntKind.u64, Kd.i IntKind.u64, Kd.i IntKind.u64, Kd.i IntKind.u64, Kd.i IntKind.u64, Kd.i IntKind.u64, Kd.i IntKind.u64, Kd.i IntKind.u64, Kd.i IntKind.u64, Kd.i IntKind.u64, Kd.i IntKind.u64, Kd.i IntKind.u64, Kd.i IntKind.u64, Kd.i IntKind.u64])) (.one 139 (some [Kd.i IntKind.u32]))) (.node 141 (.one 140 (some [Kd.i IntKind.u8, Kd.i IntKind.u8, Kd.i IntKind.u8, Kd.i IntKind.u8, Kd.i IntKind.u8, Kd.i IntKind.u8, Kd.i IntKind.u8, Kd.i IntKind.u8, Kd.i IntKind.u8, Kd.i IntKind.u8, Kd.i IntKind.u8, Kd.i IntKind.u8, Kd.i IntKind.u8, Kd.i IntKind.u8, Kd.i IntKind.u8, Kd.i IntKind.u8, Kd.i IntKind.u8, Kd.i IntKind.u8, Kd.i IntKind.u8, Kd.i IntKind.u8, Kd.i IntKind.u8, Kd.i IntKind.u8, Kd.i IntKind.u8, Kd.i IntKind.u8, Kd.i IntKind.u8, Kd.i IntKind.u8, Kd.i IntKind.u8, Kd.i IntKind.u8, Kd.i IntKind.u8, Kd.i IntKind.u8, Kd.i IntKind.u8, Kd.i IntKind.u8, Kd.i IntKind.u8, Kd.i IntKind.u8, Kd.i IntKind.u8, Kd.i IntKind.u8, Kd.i IntKind.u8, Kd.i IntKind.u8, Kd.i IntKind.u8, Kd.i IntKind.u8, Kd.i IntKind.u8, Kd.i IntKind.u8, Kd.i IntKind.u8, Kd.i IntKind.u8, Kd.i IntKind.u8, Kd.i IntKind.u8, Kd.i IntKind.u8, Kd.i IntKind.u8, Kd.i IntKind.u8, Kd.i IntKind.u8, Kd.i IntKind.u8, Kd.i IntKind.u8, Kd.i IntKind.u8, Kd.i IntKind.u8, Kd.i IntKind.u8, Kd.i IntKind.u8, Kd.i IntKind.u8, Kd.i IntKind.u8, Kd.i IntKind.u8, Kd.i IntKind.u8, Kd.i IntKind.u8, Kd.i IntKind.u8, Kd.i IntKind.u8, Kd.i IntKind.u8, Kd.i IntKind.u8])) (.node 142 (.one 141 (some kdO)) (.one 142 (some kdO))))) (.node 145 (.node 144 (.one 143 (some kdO)) (.one 144 (some [Kd.i IntKind.u8, Kd.i IntKind.u8, Kd.i IntKind.u8, Kd.i IntKind.u8, Kd.i IntKind.u8, Kd.i IntKind.u8, Kd.i IntKind.u8, Kd.i IntKind.u8, Kd.i IntKind.u8, Kd.i IntKind.u8, Kd.i IntKind.u8, Kd.i IntKind.u8, Kd.i IntKind.u8, Kd.i IntKind.u8, Kd.i IntKind.u8, Kd.i IntKind.u8, Kd.i IntKind.u8, Kd.i IntKind.u8, Kd.i IntKind.u8, Kd.i IntKind.u8, Kd.i IntKind.u8, Kd.i IntKind.u8, Kd.i IntKind.u8, Kd.i IntKind.u8, Kd.i IntKind.u8, Kd.i IntKind.u8, Kd.i IntKind.u8, Kd.i IntKind.u8, Kd.i IntKind.u8, Kd.i IntKind.u8, Kd.i IntKind.u8, Kd.i IntKind.u8]))) (.node 146 (.one 145 (some [Kd.i IntKind.u8, Kd.i IntKind.u8, Kd.i IntKind.u8, Kd.i IntKind.u8, Kd.i IntKind.u8, Kd.i IntKind.u8, Kd.i IntKind.u8, Kd.i IntKind.u8, Kd.i IntKind.u8, Kd.i IntKind.u8, Kd.i IntKind.u8, Kd.i IntKind.u8, Kd.i IntKind.u8, Kd.i IntKind.u8, Kd.i IntKind.u8, Kd.i IntKind.u8, Kd.i IntKind.u8, Kd.i IntKind.u8, Kd.i IntKind.u8, Kd.i IntKind.u8, Kd.i IntKind.u8, Kd.i IntKind.u8, Kd.i IntKind.u8, Kd.i IntKind.u8, Kd.i IntKind.u8, Kd.i IntKind.u8, Kd.i IntKind.u8, Kd.i IntKind.u8, Kd.i IntKind.u8, Kd.i IntKind.u8, Kd.i IntKind.u8, Kd.i IntKind.u8, Kd.i IntKind.u8, Kd.i IntKind.u8, Kd.i IntKind.u8, Kd.i IntKind.u8, Kd.i IntKind.u8, Kd.i IntKind.u8, Kd.i IntKind.u8, Kd.i IntKind.u8, Kd.i IntKind.u8, Kd.i IntKind.u8, Kd.i IntKind.u8, Kd.i IntKind.u8, Kd.i IntKind.u8, Kd.i IntKind.u8, Kd.i IntKind.u8, Kd.i IntKind.u8, Kd.i IntKind.u8, Kd.i IntKind.u8, Kd.i IntKind.u8, Kd.i IntKind.u8, Kd.i IntKind.u8, Kd.i IntKind.u8, Kd.i IntKind.u8, Kd.i IntKind.u8, Kd.i IntKind.u8, Kd.i IntKind.u8, Kd.i IntKind.u8, Kd.i IntKind.u8, Kd.i IntKind.u8, Kd.i IntKind.u8, Kd.i IntKind.u8, Kd.i IntKind.u8])) (.node 147 (.one 146 (some [Kd.o, Kd.o, Kd.o, Kd.s])) (.one 147 (some [Kd.o, Kd.o, Kd.o, Kd.s])))))) (.node 153 (.node 150 (.node 149 (.one 148 (some [])) (.one 149 (some []))) (.node 151 (.one 150 (some [])) (.node 152 (.one 151 (some kdO)) (.one 152 (some [Kd.i IntKind.u8]))))) (.node 155 (.node 154 (.one 153 (some [Kd.i IntKind.u8])) (.one 154 (some kdO))) (.node 156 (.one 155 (some [Kd.i IntKind.i32])) (.node 157 (.one 156 (some [Kd.i IntKind.i32])) (.one 157 (some [Kd.i IntKind.u64, Kd.i IntKind.u64, Kd.i IntKind.u32, Kd.i IntKind.u8, Kd.i IntKind.u8, Kd.i IntKind.u8, Kd.i IntKind.u8, Kd.o, Kd.o, Kd.i IntKind.i32, Kd.i IntKind.i32])))))))))
noncomputable def tm_zero : BT (Option (List AV)) := .node 79 (.node 39 (.node 19 (.node 9 (.node 4 (.node 2 (.node 1 (.one 0 (none)) (.one 1 (some [zF]))) (.node 3 (.one 2 (some [zI])) (.one 3 (some [zI])))) (.node 6 (.node 5 (.one 4 (some [zB])) (.one 5 (some [z8]))) (.node 7 (.one 6 (some [z8])) (.node 8 (.one 7 (some [zI, zI, zB, z8])) (.one 8 (some [zI, zI, zB, z8])))))) (.node 14 (.node 11 (.node 10 (.one 9 (some [AV.dv (DV.val (Value.string { data := #[] }))])) (.one 10 (some [AV.dv (DV.val (Value.string { data := #[] }))]))) (.node 12 (.one 11 (some [AV.dv (DV.val (Value.string { data := #[] }))])) (.node 13 (.one 12 (some [AV.dv (DV.val (Value.int IntKind.u64 0))])) (.one 13 (some [AV.dv (DV.val (Value.string { data := #[] })), AV.dv (DV.val (Value.int IntKind.u64 0))]))))) (.node 16 (.node 15 (.one 14 (some [AV.dv (DV.val (Value.string { data := #[] })), AV.dv (DV.val (Value.int IntKind.u64 0))])) (.one 15 (some [zP]))) (.node 17 (.one 16 (some [zP])) (.node 18 (.one 17 (some [zP])) (.one 18 (some [zP]))))))) (.node 29 (.node 24 (.node 21 (.node 20 (.one 19 (some [zP])) (.one 20 (some [zN]))) (.node 22 (.one 21 (some [AV.dv (DV.val (Value.int IntKind.i32 0))])) (.node 23 (.one 22 (some [zB, zI, AV.dv (DV.val (Value.string { data := #[] }))])) (.one 23 (some [zB, zI, AV.dv (DV.val (Value.string { data := #[] }))]))))) (.node 26 (.node 25 (.one 24 (some [AV.dv (DV.val (Value.string { data := #[] })), zB, zI, AV.dv (DV.val (Value.string { data := #[] }))])) (.one 25 (some [AV.dv (DV.val (Value.string { data := #[] })), zB, zI, AV.dv (DV.val (Value.string { data := #[] }))]))) (.node 27 (.one 26 (some [zF])) (.node 28 (.one 27 (some [zI])) (.one 28 (none)))))) (.node 34 (.node 31 (.node 30 (.one 29 (some [zF])) (.one 30 (some [zF]))) (.node 32 (.one 31 (some [AV.dv (DV.val (Value.string { data := #[] })), zB, zI, AV.dv (DV.val (Value.string { data := #[] })), AV.dv (DV.val (Value.string { data := #[] })), zB, zI, AV.dv (DV.val (Value.string { data := #[] }))])) (.node 33 (.one 32 (some [zL kdT [] Right.ex])) (.one 33 (some [zL kdL [] Right.ex]))))) (.node 36 (.node 35 (.one 34 (some [AV.dv (DV.val (Value.string { data := #[] })), zB, zI, AV.dv (DV.val (Value.string { data := #[] })), AV.dv (DV.val (Value.string { data := #[] })), zL kdT [] Right.ex, AV.dv (DV.val (Value.string { data := #[] })), zB, zI, AV.dv (DV.val (Value.string { data := #[] })), zL kdL [] Right.ex])) (.one 35 (some [AV.dv (DV.val (Value.string { data := #[] })), zB, zI, AV.dv (DV.val (Value.string { data := #[] })), AV.dv (DV.val (Value.string { data := #[] })), zL kdT [] Right.ex, AV.dv (DV.val (Value.string { data := #[] })), zB, zI, AV.dv (DV.val (Value.string { data := #[] })), zL kdL [] Right.ex]))) (.node 37 (.one 36 (some [zF])) (.node 38 (.one 37 (some [zL kdR [] Right.ex])) (.one 38 (some [zF])))))))) (.node 59 (.node 49 (.node 44 (.node 41 (.node 40 (.one 39 (some [zF])) (.one 40 (some [zF]))) (.node 42 (.one 41 (some [zF])) (.node 43 (.one 42 (some [zF])) (.one 43 (some [zF]))))) (.node 46 (.node 45 (.one 44 (some [zF])) (.one 45 (some [zF]))) (.node 47 (.one 46 (some [zF])) (.node 48 (.one 47 (none)) (.one 48 (some [zF])))))) (.node 54 (.node 51 (.node 50 (.one 49 (some [zF])) (.one 50 (some [zL [Kd.s] [] Right.ex]))) (.node 52 (.one 51 (some [zF])) (.node 53 (.one 52 (some [zF])) (.one 53 (some [zF]))))) (.node 56 (.node 55 (.one 54 (some [AV.dv (DV.val (Value.int IntKind.u64 0))])) (.one 55 (none))) (.node 57 (.one 56 (some [zF])) (.node 58 (.one 57 (some [zF])) (.one 58 (some [zF]))))))) (.node 69 (.node 64 (.node 61 (.node 60 (.one 59 (some [zP])) (.one 60 (some [zF]))) (.node 62 (.one 61 (some [AV.dv (DV.val (Value.string { data := #[] })), zB, zI, AV.dv (DV.val (Value.string { data := #[] })), AV.dv (DV.val (Value.string { data := #[] })), zL kdT [] Right.ex, AV.dv (DV.val (Value.string { data := #[] })), zB, zI, AV.dv (DV.val (Value.string { data := #[] }))])) (.node 63 (.one 62 (some [AV.dv (DV.val (Value.string { data := #[] })), zB, zI, AV.dv (DV.val (Value.string { data := #[] })), AV.dv (DV.val (Value.string { data := #[] })), zL kdT [] Right.ex, AV.dv (DV.val (Value.string { data := #[] })), zB, zI, AV.dv (DV.val (Value.string { data := #[] }))])) (.one 63 (some [zF]))))) (.node 66 (.node 65 (.one 64 (some [zF])) (.one 65 (some [zF]))) (.node 67 (.one 66 (some [zF])) (.node 68 (.one 67 (some [zP])) (.one 68 (some [zP])))))) (.node 74 (.node 71 (.node 70 (.one 69 (some [zL [Kd.i IntKind.u8] [] Right.ex])) (.one 70 (some [zP, zL [Kd.i IntKind.u8] [] Right.ex]))) (.node 72 (.one 71 (some [zP, zL [Kd.i IntKind.u8] [] Right.ex])) (.node 73 (.one 72 (some [zP, zL [Kd.i IntKind.u8] [] Right.ex, zB])) (.one 73 (some [zP, zL [Kd.i IntKind.u8] [] Right.ex, zB]))))) (.node 76 (.node 75 (.one 74 (some [zF])) (.one 75 (some [zN]))) (.node 77 (.one 76 (some [zN])) (.node 78 (.one 77 (none)) (.one 78 (some [zF]))))))))) (.node 118 (.node 98 (.node 88 (.node 83 (.node 81 (.node 80 (.one 79 (some [zF])) (.one 80 (some [zF]))) (.node 82 (.one 81 (some [zF])) (.one 82 (some [zF])))) (.node 85 (.node 84 (.one 83 (none)) (.one 84 (some [zF]))) (.node 86 (.one 85 (some [zF])) (.node 87 (.one 86 (some [zL kdK [] Right.ex])) (.one 87 (none)))))) (.node 93 (.node 90 (.node 89 (.one 88 (some [zF])) (.one 89 (some [zP]))) (.node 91 (.one 90 (some [zL kdK [] Right.ex, zI])) (.node 92 (.one 91 (some [zL kdK [] Right.ex, zI])) (.one 92 (some [zI, zI]))))) (.node 95 (.node 94 (.one 93 (some [zI, zI])) (.one 94 (some [zF]))) (.node 96 (.one 95 (some [zF])) (.node 97 (.one 96 (some [zF])) (.one 97 (some [zF]))))))) (.node 108 (.node 103 (.node 100 (.node 99 (.one 98 (some [zF])) (.one 99 (some [zF]))) (.node 101 (.one 100 (some [AV.dv (DV.val (Value.map none))])) (.node 102 (.one 101 (some [zF])) (.one 102 (some [zF]))))) (.node 105 (.node 104 (.one 103 (some [zF])) (.one 104 (some [zI, AV.dv (DV.val (Value.string { data := #[] })), zI, zI]))) (.node 106 (.one 105 (some [zI, AV.dv (DV.val (Value.string { data := #[] })), zI, zI])) (.node 107 (.one 106 (some [zF])) (.one 107 (some [zP])))))) (.node 113 (.node 110 (.node 109 (.one 108 (some [zF])) (.one 109 (none))) (.node 111 (.one 110 (some [zF])) (.node 112 (.one 111 (some [zF])) (.one 112 (some [zF]))))) (.node 115 (.node 114 (.one 113 (some [zF])) (.one 114 (some [zF]))) (.node 116 (.one 115 (some [zF])) (.node 117 (.one 116 (some [zF])) (.one 117 (some [zF])))))))) (.node 138 (.node 128 (.node 123 (.node 120 (.node 119 (.one 118 (some [zF])) (.one 119 (none))) (.node 121 (.one 120 (some [zF])) (.node 122 (.one 121 (some [zF])) (.one 122 (some [zF]))))) (.node 125 (.node 124 (.one 123 (none)) (.one 124 (some [zF]))) (.node 126 (.one 125 (some [zF])) (.node 127 (.one 126 (some [zF])) (.one 127 (none)))))) (.node 133 (.node 130 (.node 129 (.one 128 (some [zF])) (.one 129 (some [zF]))) (.node 131 (.one 130 (some [z8, z8, z8, z8, z8, z8, z8, z8, z8, z8, z8, z8, z8, z8, z8, z8, z8, z8, z8, z8, z8, z8, z8, z8])) (.node 132 (.one 131 (some [AV.dv (DV.val (Value.int IntKind.u64 0))])) (.one 132 (some [zF]))))) (.node 135 (.node 134 (.one 133 (some [zF])) (.one 134 (none))) (.node 136 (.one 135 (some [zF])) (.node 137 (.one 136 (some [zF])) (.one 137 (some [zF]))))))) (.node 148 (.node 143 (.node 140 (.node 139 (.one 138 (some [AV.dv (DV.val (Value.int IntKind.u64 0)), AV.dv (DV.val (Value.int IntKind.u64 0)), AV.dv (DV.val (Value.int IntKind.u64 0)), AV.dv (DV.val (Value.int IntKind.u64 0)), AV.dv (DV.val (Value.int IntKind.u64 0)), AV.dv (DV.val (Value.int IntKind.u64 0)), AV.dv (DV.val (Value.int IntKind.u64 0)), AV.dv (DV.val (Value.int IntKind.u64 0)), AV.dv (DV.val (Value.int IntKind.u64 0)), AV.dv (DV.val (Value.int IntKind.u64 0)), AV.dv (DV.val (Value.int IntKind.u64 0)), AV.dv (DV.val (Value.int IntKind.u64 0)), AV.dv (DV.val (Value.int IntKind.u64 0)), AV.dv (DV.val (Value.int IntKind.u64 0)), AV.dv (DV.val (Value.int IntKind.u64 0)), AV.dv (DV.val (Value.int IntKind.u64 0)), AV.dv (DV.val (Value.int IntKind.u64 0)), AV.dv (DV.val (Value.int IntKind.u64 0)), AV.dv (DV.val (Value.int IntKind.u64 0)), AV.dv (DV.val (Value.int IntKind.u64 0))])) (.one 139 (some [AV.dv (DV.val (Value.int IntKind.u32 0))]))) (.node 141 (.one 140 (some [z8, z8, z8, z8, z8, z8, z8, z8, z8, z8, z8, z8, z8, z8, z8, z8, z8, z8, z8, z8, z8, z8, z8, z8, z8, z8, z8, z8, z8, z8, z8, z8, z8, z8, z8, z8, z8, z8, z8, z8, z8, z8, z8, z8, z8, z8, z8, z8, z8, z8, z8, z8, z8, z8, z8, z8, z8, z8, z8, z8, z8, z8, z8, z8, z8])) (.node 142 (.one 141 (some [zF])) (.one 142 (some [zF]))))) (.node 145 (.node 144 (.one 143 (some [zF])) (.one 144 (some [z8, z8, z8, z8, z8, z8, z8, z8, z8, z8, z8, z8, z8, z8, z8, z8, z8, z8, z8, z8, z8, z8, z8, z8, z8, z8, z8, z8, z8, z8, z8, z8]))) (.node 146 (.one 145 (some [z8, z8, z8, z8, z8, z8, z8, z8, z8, z8, z8, z8, z8, z8, z8, z8, z8, z8, z8, z8, z8, z8, z8, z8, z8, z8, z8, z8, z8, z8, z8, z8, z8, z8, z8, z8, z8, z8, z8, z8, z8, z8, z8, z8, z8, z8, z8, z8, z8, z8, z8, z8, z8, z8, z8, z8, z8, z8, z8, z8, z8, z8, z8, z8])) (.node 147 (.one 146 (some [zP, zP, zP, AV.dv (DV.val (Value.string { data := #[] }))])) (.one 147 (some [zP, zP, zP, AV.dv (DV.val (Value.string { data := #[] }))])))))) (.node 153 (.node 150 (.node 149 (.one 148 (some [])) (.one 149 (some []))) (.node 151 (.one 150 (some [])) (.node 152 (.one 151 (some [zF])) (.one 152 (some [z8]))))) (.node 155 (.node 154 (.one 153 (some [z8])) (.one 154 (some [zF]))) (.node 156 (.one 155 (some [AV.dv (DV.val (Value.int IntKind.i32 0))])) (.node 157 (.one 156 (some [AV.dv (DV.val (Value.int IntKind.i32 0))])) (.one 157 (some [AV.dv (DV.val (Value.int IntKind.u64 0)), AV.dv (DV.val (Value.int IntKind.u64 0)), AV.dv (DV.val (Value.int IntKind.u32 0)), z8, z8, z8, z8, zF, zP, AV.dv (DV.val (Value.int IntKind.i32 0)), AV.dv (DV.val (Value.int IntKind.i32 0))])))))))))
noncomputable def tm_plain : BT (Option (List Kd)) := .node 79 (.node 39 (.node 19 (.node 9 (.node 4 (.node 2 (.node 1 (.one 0 (none)) (.one 1 (none))) (.node 3 (.one 2 (some [Kd.i IntKind.i64])) (.one 3 (some [Kd.i IntKind.i64])))) (.node 6 (.node 5 (.one 4 (some [Kd.b])) (.one 5 (some [Kd.i IntKind.u8]))) (.node 7 (.one 6 (some [Kd.i IntKind.u8])) (.node 8 (.one 7 (some [Kd.i IntKind.i64, Kd.i IntKind.i64, Kd.b, Kd.i IntKind.u8])) (.one 8 (some [Kd.i IntKind.i64, Kd.i IntKind.i64, Kd.b, Kd.i IntKind.u8])))))) (.node 14 (.node 11 (.node 10 (.one 9 (some [Kd.s])) (.one 10 (some [Kd.s]))) (.node 12 (.one 11 (some [Kd.s])) (.node 13 (.one 12 (some [Kd.i IntKind.u64])) (.one 13 (none))))) (.node 16 (.node 15 (.one 14 (none)) (.one 15 (none))) (.node 17 (.one 16 (none)) (.node 18 (.one 17 (none)) (.one 18 (none))))))) (.node 29 (.node 24 (.node 21 (.node 20 (.one 19 (none)) (.one 20 (none))) (.node 22 (.one 21 (some [Kd.i IntKind.i32])) (.node 23 (.one 22 (some kdC)) (.one 23 (some kdC))))) (.node 26 (.node 25 (.one 24 (some kdT)) (.one 25 (some kdT))) (.node 27 (.one 26 (none)) (.node 28 (.one 27 (some [Kd.i IntKind.i64])) (.one 28 (none)))))) (.node 34 (.node 31 (.node 30 (.one 29 (none)) (.one 30 (none))) (.node 32 (.one 31 (none)) (.node 33 (.one 32 (none)) (.one 33 (none))))) (.node 36 (.node 35 (.one 34 (none)) (.one 35 (none))) (.node 37 (.one 36 (none)) (.node 38 (.one 37 (none)) (.one 38 (none)))))))) (.node 59 (.node 49 (.node 44 (.node 41 (.node 40 (.one 39 (none)) (.one 40 (none))) (.node 42 (.one 41 (none)) (.node 43 (.one 42 (none)) (.one 43 (none))))) (.node 46 (.node 45 (.one 44 (none)) (.one 45 (none))) (.node 47 (.one 46 (none)) (.node 48 (.one 47 (none)) (.one 48 (none)))))) (.node 54 (.node 51 (.node 50 (.one 49 (none)) (.one 50 (none))) (.node 52 (.one 51 (none)) (.node 53 (.one 52 (none)) (.one 53 (none))))) (.node 56 (.node 55 (.one 54 (some [Kd.i IntKind.u64])) (.one 55 (none))) (.node 57 (.one 56 (none)) (.node 58 (.one 57 (none)) (.one 58 (none))))))) (.node 69 (.node 64 (.node 61 (.node 60 (.one 59 (none)) (.one 60 (none))) (.node 62 (.one 61 (none)) (.node 63 (.one 62 (none)) (.one 63 (none))))) (.node 66 (.node 65 (.one 64 (none)) (.one 65 (none))) (.node 67 (.one 66 (none)) (.node 68 (.one 67 (none)) (.one 68 (none)))))) (.node 74 (.node 71 (.node 70 (.one 69 (none)) (.one 70 (none))) (.node 72 (.one 71 (none)) (.node 73 (.one 72 (none)) (.one 73 (none))))) (.node 76 (.node 75 (.one 74 (none)) (.one 75 (none))) (.node 77 (.one 76 (none)) (.node 78 (.one 77 (none)) (.one 78 (none))))))))) (.node 118 (.node 98 (.node 88 (.node 83 (.node 81 (.node 80 (.one 79 (none)) (.one 80 (none))) (.node 82 (.one 81 (none)) (.one 82 (none)))) (.node 85 (.node 84 (.one 83 (none)) (.one 84 (none))) (.node 86 (.one 85 (none)) (.node 87 (.one 86 (none)) (.one 87 (none)))))) (.node 93 (.node 90 (.node 89 (.one 88 (none)) (.one 89 (none))) (.node 91 (.one 90 (none)) (.node 92 (.one 91 (none)) (.one 92 (some [Kd.i IntKind.i64, Kd.i IntKind.i64]))))) (.node 95 (.node 94 (.one 93 (some [Kd.i IntKind.i64, Kd.i IntKind.i64])) (.one 94 (none))) (.node 96 (.one 95 (none)) (.node 97 (.one 96 (none)) (.one 97 (none))))))) (.node 108 (.node 103 (.node 100 (.node 99 (.one 98 (none)) (.one 99 (none))) (.node 101 (.one 100 (none)) (.node 102 (.one 101 (none)) (.one 102 (none))))) (.node 105 (.node 104 (.one 103 (none)) (.one 104 (some kdK))) (.node 106 (.one 105 (some kdK)) (.node 107 (.one 106 (none)) (.one 107 (none)))))) (.node 113 (.node 110 (.node 109 (.one 108 (none)) (.one 109 (none))) (.node 111 (.one 110 (none)) (.node 112 (.one 111 (none)) (.one 112 (none))))) (.node 115 (.node 114 (.one 113 (none)) (.one 114 (none))) (.node 116 (.one 115 (none)) (.node 117 (.one 116 (none)) (.one 117 (none)))))))) (.node 138 (.node 128 (.node 123 (.node 120 (.node 119 (.one 118 (none)) (.one 119 (none))) (.node 121 (.one 120 (none)) (.node 122 (.one 121 (none)) (.one 122 (none))))) (.node 125 (.node 124 (.one 123 (none)) (.one 124 (none))) (.node 126 (.one 125 (none)) (.node 127 (.one 126 (none)) (.one 127 (none)))))) (.node 133 (.node 130 (.node 129 (.one 128 (none)) (.one 129 (none))) (.node 131 (.one 130 (none)) (.node 132 (.one 131 (some [Kd.i IntKind.u64])) (.one 132 (none))))) (.node 135 (.node 134 (.one 133 (none)) (.one 134 (none))) (.node 136 (.one 135 (none)) (.node 137 (.one 136 (none)) (.one 137 (none))))))) (.node 148 (.node 143 (.node 140 (.node 139 (.one 138 (none)) (.one 139 (some [Kd.i IntKind.u32]))) (.node 141 (.one 140 (none)) (.node 142 (.one 141 (none)) (.one 142 (none))))) (.node 145 (.node 144 (.one 143 (none)) (.one 144 (none))) (.node 146 (.one 145 (none)) (.node 147 (.one 146 (none)) (.one 147 (none)))))) (.node 153 (.node 150 (.node 149 (.one 148 (none)) (.one 149 (none))) (.node 151 (.one 150 (none)) (.node 152 (.one 151 (none)) (.one 152 (some [Kd.i IntKind.u8]))))) (.node 155 (.node 154 (.one 153 (some [Kd.i IntKind.u8])) (.one 154 (none))) (.node 156 (.one 155 (some [Kd.i IntKind.i32])) (.node 157 (.one 156 (some [Kd.i IntKind.i32])) (.one 157 (none)))))))))
noncomputable def tm_guard : BT (Bool) := .node 79 (.node 39 (.node 19 (.node 9 (.node 4 (.node 2 (.node 1 (.one 0 (false)) (.one 1 (false))) (.node 3 (.one 2 (false)) (.one 3 (false)))) (.node 6 (.node 5 (.one 4 (false)) (.one 5 (false))) (.node 7 (.one 6 (false)) (.node 8 (.one 7 (false)) (.one 8 (false)))))) (.node 14 (.node 11 (.node 10 (.one 9 (false)) (.one 10 (false))) (.node 12 (.one 11 (false)) (.node 13 (.one 12 (false)) (.one 13 (false))))) (.node 16 (.node 15 (.one 14 (false)) (.one 15 (false))) (.node 17 (.one 16 (false)) (.node 18 (.one 17 (false)) (.one 18 (false))))))) (.node 29 (.node 24 (.node 21 (.node 20 (.one 19 (false)) (.one 20 (false))) (.node 22 (.one 21 (false)) (.node 23 (.one 22 (false)) (.one 23 (false))))) (.node 26 (.node 25 (.one 24 (false)) (.one 25 (false))) (.node 27 (.one 26 (false)) (.node 28 (.one 27 (false)) (.one 28 (false)))))) (.node 34 (.node 31 (.node 30 (.one 29 (false)) (.one 30 (false))) (.node 32 (.one 31 (false)) (.node 33 (.one 32 (false)) (.one 33 (false))))) (.node 36 (.node 35 (.one 34 (false)) (.one 35 (false))) (.node 37 (.one 36 (false)) (.node 38 (.one 37 (false)) (.one 38 (false)))))))) (.node 59 (.node 49 (.node 44 (.node 41 (.node 40 (.one 39 (false)) (.one 40 (false))) (.node 42 (.one 41 (false)) (.node 43 (.one 42 (false)) (.one 43 (false))))) (.node 46 (.node 45 (.one 44 (false)) (.one 45 (false))) (.node 47 (.one 46 (false)) (.node 48 (.one 47 (false)) (.one 48 (false)))))) (.node 54 (.node 51 (.node 50 (.one 49 (false)) (.one 50 (false))) (.node 52 (.one 51 (false)) (.node 53 (.one 52 (false)) (.one 53 (false))))) (.node 56 (.node 55 (.one 54 (false)) (.one 55 (false))) (.node 57 (.one 56 (false)) (.node 58 (.one 57 (false)) (.one 58 (false))))))) (.node 69 (.node 64 (.node 61 (.node 60 (.one 59 (false)) (.one 60 (false))) (.node 62 (.one 61 (false)) (.node 63 (.one 62 (false)) (.one 63 (false))))) (.node 66 (.node 65 (.one 64 (false)) (.one 65 (false))) (.node 67 (.one 66 (false)) (.node 68 (.one 67 (false)) (.one 68 (false)))))) (.node 74 (.node 71 (.node 70 (.one 69 (false)) (.one 70 (false))) (.node 72 (.one 71 (false)) (.node 73 (.one 72 (false)) (.one 73 (false))))) (.node 76 (.node 75 (.one 74 (false)) (.one 75 (true))) (.node 77 (.one 76 (true)) (.node 78 (.one 77 (false)) (.one 78 (false))))))))) (.node 118 (.node 98 (.node 88 (.node 83 (.node 81 (.node 80 (.one 79 (false)) (.one 80 (false))) (.node 82 (.one 81 (false)) (.one 82 (false)))) (.node 85 (.node 84 (.one 83 (false)) (.one 84 (false))) (.node 86 (.one 85 (false)) (.node 87 (.one 86 (false)) (.one 87 (false)))))) (.node 93 (.node 90 (.node 89 (.one 88 (false)) (.one 89 (false))) (.node 91 (.one 90 (false)) (.node 92 (.one 91 (false)) (.one 92 (false))))) (.node 95 (.node 94 (.one 93 (false)) (.one 94 (false))) (.node 96 (.one 95 (false)) (.node 97 (.one 96 (false)) (.one 97 (false))))))) (.node 108 (.node 103 (.node 100 (.node 99 (.one 98 (false)) (.one 99 (false))) (.node 101 (.one 100 (false)) (.node 102 (.one 101 (false)) (.one 102 (false))))) (.node 105 (.node 104 (.one 103 (false)) (.one 104 (false))) (.node 106 (.one 105 (false)) (.node 107 (.one 106 (false)) (.one 107 (false)))))) (.node 113 (.node 110 (.node 109 (.one 108 (false)) (.one 109 (false))) (.node 111 (.one 110 (false)) (.node 112 (.one 111 (false)) (.one 112 (false))))) (.node 115 (.node 114 (.one 113 (false)) (.one 114 (false))) (.node 116 (.one 115 (false)) (.node 117 (.one 116 (false)) (.one 117 (false)))))))) (.node 138 (.node 128 (.node 123 (.node 120 (.node 119 (.one 118 (false)) (.one 119 (false))) (.node 121 (.one 120 (false)) (.node 122 (.one 121 (false)) (.one 122 (false))))) (.node 125 (.node 124 (.one 123 (false)) (.one 124 (false))) (.node 126 (.one 125 (false)) (.node 127 (.one 126 (false)) (.one 127 (false)))))) (.node 133 (.node 130 (.node 129 (.one 128 (false)) (.one 129 (false))) (.node 131 (.one 130 (false)) (.node 132 (.one 131 (false)) (.one 132 (false))))) (.node 135 (.node 134 (.one 133 (false)) (.one 134 (false))) (.node 136 (.one 135 (false)) (.node 137 (.one 136 (false)) (.one 137 (false))))))) (.node 148 (.node 143 (.node 140 (.node 139 (.one 138 (false)) (.one 139 (false))) (.node 141 (.one 140 (false)) (.node 142 (.one 141 (false)) (.one 142 (false))))) (.node 145 (.node 144 (.one 143 (false)) (.one 144 (false))) (.node 146 (.one 145 (false)) (.node 147 (.one 146 (false)) (.one 147 (false)))))) (.node 153 (.node 150 (.node 149 (.one 148 (false)) (.one 149 (false))) (.node 151 (.one 150 (false)) (.node 152 (.one 151 (false)) (.one 152 (false))))) (.node 155 (.node 154 (.one 153 (false)) (.one 154 (false))) (.node 156 (.one 155 (false)) (.node 157 (.one 156 (false)) (.one 157 (false)))))))))
noncomputable def tm_size : BT (Option Nat) := .node 79 (.node 39 (.node 19 (.node 9 (.node 4 (.node 2 (.node 1 (.one 0 (some 1)) (.one 1 (some 1))) (.node 3 (.one 2 (some 1)) (.one 3 (some 1)))) (.node 6 (.node 5 (.one 4 (some 1)) (.one 5 (some 1))) (.node 7 (.one 6 (some 1)) (.node 8 (.one 7 (some 4)) (.one 8 (some 4)))))) (.node 14 (.node 11 (.node 10 (.one 9 (some 1)) (.one 10 (some 1))) (.node 12 (.one 11 (some 1)) (.node 13 (.one 12 (some 1)) (.one 13 (some 2))))) (.node 16 (.node 15 (.one 14 (some 2)) (.one 15 (some 1))) (.node 17 (.one 16 (some 1)) (.node 18 (.one 17 (some 1)) (.one 18 (some 1))))))) (.node 29 (.node 24 (.node 21 (.node 20 (.one 19 (some 1)) (.one 20 (some 1))) (.node 22 (.one 21 (some 1)) (.node 23 (.one 22 (some 3)) (.one 23 (some 3))))) (.node 26 (.node 25 (.one 24 (some 4)) (.one 25 (some 4))) (.node 27 (.one 26 (some 1)) (.node 28 (.one 27 (some 1)) (.one 28 (some 1)))))) (.node 34 (.node 31 (.node 30 (.one 29 (some 1)) (.one 30 (some 1))) (.node 32 (.one 31 (some 8)) (.node 33 (.one 32 (some 1)) (.one 33 (some 1))))) (.node 36 (.node 35 (.one 34 (some 11)) (.one 35 (some 11))) (.node 37 (.one 36 (some 1)) (.node 38 (.one 37 (some 1)) (.one 38 (some 1)))))))) (.node 59 (.node 49 (.node 44 (.node 41 (.node 40 (.one 39 (some 1)) (.one 40 (some 1))) (.node 42 (.one 41 (some 1)) (.node 43 (.one 42 (some 1)) (.one 43 (some 1))))) (.node 46 (.node 45 (.one 44 (some 1)) (.one 45 (some 1))) (.node 47 (.one 46 (some 1)) (.node 48 (.one 47 (some 1)) (.one 48 (some 1)))))) (.node 54 (.node 51 (.node 50 (.one 49 (some 1)) (.one 50 (some 1))) (.node 52 (.one 51 (some 1)) (.node 53 (.one 52 (some 1)) (.one 53 (some 1))))) (.node 56 (.node 55 (.one 54 (some 1)) (.one 55 (some 1))) (.node 57 (.one 56 (some 1)) (.node 58 (.one 57 (some 1)) (.one 58 (some 1))))))) (.node 69 (.node 64 (.node 61 (.node 60 (.one 59 (some 1)) (.one 60 (some 1))) (.node 62 (.one 61 (some 10)) (.node 63 (.one 62 (some 10)) (.one 63 (some 1))))) (.node 66 (.node 65 (.one 64 (some 1)) (.one 65 (some 1))) (.node 67 (.one 66 (some 1)) (.node 68 (.one 67 (some 1)) (.one 68 (some 1)))))) (.node 74 (.node 71 (.node 70 (.one 69 (some 1)) (.one 70 (some 2))) (.node 72 (.one 71 (some 2)) (.node 73 (.one 72 (some 3)) (.one 73 (some 3))))) (.node 76 (.node 75 (.one 74 (some 1)) (.one 75 (some 1))) (.node 77 (.one 76 (some 1)) (.node 78 (.one 77 (some 1)) (.one 78 (some 1))))))))) (.node 118 (.node 98 (.node 88 (.node 83 (.node 81 (.node 80 (.one 79 (some 1)) (.one 80 (some 1))) (.node 82 (.one 81 (some 1)) (.one 82 (some 1)))) (.node 85 (.node 84 (.one 83 (some 1)) (.one 84 (some 1))) (.node 86 (.one 85 (some 1)) (.node 87 (.one 86 (some 1)) (.one 87 (some 1)))))) (.node 93 (.node 90 (.node 89 (.one 88 (some 1)) (.one 89 (some 1))) (.node 91 (.one 90 (some 2)) (.node 92 (.one 91 (some 2)) (.one 92 (some 2))))) (.node 95 (.node 94 (.one 93 (some 2)) (.one 94 (some 1))) (.node 96 (.one 95 (some 1)) (.node 97 (.one 96 (some 1)) (.one 97 (some 1))))))) (.node 108 (.node 103 (.node 100 (.node 99 (.one 98 (some 1)) (.one 99 (some 1))) (.node 101 (.one 100 (some 1)) (.node 102 (.one 101 (some 1)) (.one 102 (some 1))))) (.node 105 (.node 104 (.one 103 (some 1)) (.one 104 (some 4))) (.node 106 (.one 105 (some 4)) (.node 107 (.one 106 (some 1)) (.one 107 (some 1)))))) (.node 113 (.node 110 (.node 109 (.one 108 (some 1)) (.one 109 (some 1))) (.node 111 (.one 110 (some 1)) (.node 112 (.one 111 (some 1)) (.one 112 (some 1))))) (.node 115 (.node 114 (.one 113 (some 1)) (.one 114 (some 1))) (.node 116 (.one 115 (some 1)) (.node 117 (.one 116 (some 1)) (.one 117 (some 1)))))))) (.node 138 (.node 128 (.node 123 (.node 120 (.node 119 (.one 118 (some 1)) (.one 119 (some 1))) (.node 121 (.one 120 (some 1)) (.node 122 (.one 121 (some 1)) (.one 122 (some 1))))) (.node 125 (.node 124 (.one 123 (some 1)) (.one 124 (some 1))) (.node 126 (.one 125 (some 1)) (.node 127 (.one 126 (some 1)) (.one 127 (some 1)))))) (.node 133 (.node 130 (.node 129 (.one 128 (some 1)) (.one 129 (some 1))) (.node 131 (.one 130 (some 24)) (.node 132 (.one 131 (some 1)) (.one 132 (some 1))))) (.node 135 (.node 134 (.one 133 (some 1)) (.one 134 (some 1))) (.node 136 (.one 135 (some 1)) (.node 137 (.one 136 (some 1)) (.one 137 (some 1))))))) (.node 148 (.node 143 (.node 140 (.node 139 (.one 138 (some 20)) (.one 139 (some 1))) (.node 141 (.one 140 (some 65)) (.node 142 (.one 141 (some 1)) (.one 142 (some 1))))) (.node 145 (.node 144 (.one 143 (some 1)) (.one 144 (some 32))) (.node 146 (.one 145 (some 64)) (.node 147 (.one 146 (some 4)) (.one 147 (some 4)))))) (.node 153 (.node 150 (.node 149 (.one 148 (some 0)) (.one 149 (some 0))) (.node 151 (.one 150 (some 0)) (.node 152 (.one 151 (some 1)) (.one 152 (some 1))))) (.node 155 (.node 154 (.one 153 (some 1)) (.one 154 (some 1))) (.node 156 (.one 155 (some 1)) (.node 157 (.one 156 (some 1)) (.one 157 (some 11)))))))))
noncomputable def tm_agg : BT (Option Bool) := .node 79 (.node 39 (.node 19 (.node 9 (.node 4 (.node 2 (.node 1 (.one 0 (some false)) (.one 1 (some false))) (.node 3 (.one 2 (some false)) (.one 3 (some false)))) (.node 6 (.node 5 (.one 4 (some false)) (.one 5 (some false))) (.node 7 (.one 6 (some false)) (.node 8 (.one 7 (some true)) (.one 8 (some true)))))) (.node 14 (.node 11 (.node 10 (.one 9 (some false)) (.one 10 (some false))) (.node 12 (.one 11 (some false)) (.node 13 (.one 12 (some false)) (.one 13 (some true))))) (.node 16 (.node 15 (.one 14 (some true)) (.one 15 (some false))) (.node 17 (.one 16 (some false)) (.node 18 (.one 17 (some false)) (.one 18 (some true))))))) (.node 29 (.node 24 (.node 21 (.node 20 (.one 19 (some true)) (.one 20 (some false))) (.node 22 (.one 21 (some false)) (.node 23 (.one 22 (some true)) (.one 23 (some true))))) (.node 26 (.node 25 (.one 24 (some true)) (.one 25 (some true))) (.node 27 (.one 26 (some false)) (.node 28 (.one 27 (some false)) (.one 28 (some false)))))) (.node 34 (.node 31 (.node 30 (.one 29 (some false)) (.one 30 (some false))) (.node 32 (.one 31 (some true)) (.node 33 (.one 32 (some false)) (.one 33 (some false))))) (.node 36 (.node 35 (.one 34 (some true)) (.one 35 (some true))) (.node 37 (.one 36 (some false)) (.node 38 (.one 37 (some false)) (.one 38 (some false)))))))) (.node 59 (.node 49 (.node 44 (.node 41 (.node 40 (.one 39 (some false)) (.one 40 (some false))) (.node 42 (.one 41 (some false)) (.node 43 (.one 42 (some false)) (.one 43 (some false))))) (.node 46 (.node 45 (.one 44 (some false)) (.one 45 (some false))) (.node 47 (.one 46 (some false)) (.node 48 (.one 47 (some false)) (.one 48 (some false)))))) (.node 54 (.node 51 (.node 50 (.one 49 (some false)) (.one 50 (some false))) (.node 52 (.one 51 (some false)) (.node 53 (.one 52 (some false)) (.one 53 (some false))))) (.node 56 (.node 55 (.one 54 (some false)) (.one 55 (some false))) (.node 57 (.one 56 (some false)) (.node 58 (.one 57 (some false)) (.one 58 (some false))))))) (.node 69 (.node 64 (.node 61 (.node 60 (.one 59 (some false)) (.one 60 (some false))) (.node 62 (.one 61 (some true)) (.node 63 (.one 62 (some true)) (.one 63 (some false))))) (.node 66 (.node 65 (.one 64 (some false)) (.one 65 (some false))) (.node 67 (.one 66 (some false)) (.node 68 (.one 67 (some false)) (.one 68 (some false)))))) (.node 74 (.node 71 (.node 70 (.one 69 (some false)) (.one 70 (some true))) (.node 72 (.one 71 (some true)) (.node 73 (.one 72 (some true)) (.one 73 (some true))))) (.node 76 (.node 75 (.one 74 (some false)) (.one 75 (some false))) (.node 77 (.one 76 (some false)) (.node 78 (.one 77 (some false)) (.one 78 (some false))))))))) (.node 118 (.node 98 (.node 88 (.node 83 (.node 81 (.node 80 (.one 79 (some false)) (.one 80 (some false))) (.node 82 (.one 81 (some false)) (.one 82 (some false)))) (.node 85 (.node 84 (.one 83 (some false)) (.one 84 (some false))) (.node 86 (.one 85 (some false)) (.node 87 (.one 86 (some false)) (.one 87 (some false)))))) (.node 93 (.node 90 (.node 89 (.one 88 (some false)) (.one 89 (some false))) (.node 91 (.one 90 (some true)) (.node 92 (.one 91 (some true)) (.one 92 (some true))))) (.node 95 (.node 94 (.one 93 (some true)) (.one 94 (some false))) (.node 96 (.one 95 (some false)) (.node 97 (.one 96 (some false)) (.one 97 (some false))))))) (.node 108 (.node 103 (.node 100 (.node 99 (.one 98 (some false)) (.one 99 (some false))) (.node 101 (.one 100 (some false)) (.node 102 (.one 101 (some false)) (.one 102 (some false))))) (.node 105 (.node 104 (.one 103 (some false)) (.one 104 (some true))) (.node 106 (.one 105 (some true)) (.node 107 (.one 106 (some false)) (.one 107 (some false)))))) (.node 113 (.node 110 (.node 109 (.one 108 (some false)) (.one 109 (some false))) (.node 111 (.one 110 (some false)) (.node 112 (.one 111 (some false)) (.one 112 (some false))))) (.node 115 (.node 114 (.one 113 (some false)) (.one 114 (some false))) (.node 116 (.one 115 (some false)) (.node 117 (.one 116 (some false)) (.one 117 (some false)))))))) (.node 138 (.node 128 (.node 123 (.node 120 (.node 119 (.one 118 (some false)) (.one 119 (some false))) (.node 121 (.one 120 (some false)) (.node 122 (.one 121 (some false)) (.one 122 (some false))))) (.node 125 (.node 124 (.one 123 (some false)) (.one 124 (some false))) (.node 126 (.one 125 (some false)) (.node 127 (.one 126 (some false)) (.one 127 (some false)))))) (.node 133 (.node 130 (.node 129 (.one 128 (some false)) (.one 129 (some false))) (.node 131 (.one 130 (some true)) (.node 132 (.one 131 (some false)) (.one 132 (some false))))) (.node 135 (.node 134 (.one 133 (some false)) (.one 134 (some false))) (.node 136 (.one 135 (some false)) (.node 137 (.one 136 (some false)) (.one 137 (some false))))))) (.node 148 (.node 143 (.node 140 (.node 139 (.one 138 (some true)) (.one 139 (some false))) (.node 141 (.one 140 (some true)) (.node 142 (.one 141 (some false)) (.one 142 (some false))))) (.node 145 (.node 144 (.one 143 (some false)) (.one 144 (some true))) (.node 146 (.one 145 (some true)) (.node 147 (.one 146 (some true)) (.one 147 (some true)))))) (.node 153 (.node 150 (.node 149 (.one 148 (some true)) (.one 149 (some true))) (.node 151 (.one 150 (some true)) (.node 152 (.one 151 (some false)) (.one 152 (some false))))) (.node 155 (.node 154 (.one 153 (some false)) (.one 154 (some false))) (.node 156 (.one 155 (some false)) (.node 157 (.one 156 (some false)) (.one 157 (some true)))))))))
noncomputable def tm_sized : BT (Bool) := .node 79 (.node 39 (.node 19 (.node 9 (.node 4 (.node 2 (.node 1 (.one 0 (false)) (.one 1 (false))) (.node 3 (.one 2 (false)) (.one 3 (false)))) (.node 6 (.node 5 (.one 4 (false)) (.one 5 (false))) (.node 7 (.one 6 (false)) (.node 8 (.one 7 (true)) (.one 8 (true)))))) (.node 14 (.node 11 (.node 10 (.one 9 (false)) (.one 10 (false))) (.node 12 (.one 11 (false)) (.node 13 (.one 12 (false)) (.one 13 (true))))) (.node 16 (.node 15 (.one 14 (true)) (.one 15 (false))) (.node 17 (.one 16 (false)) (.node 18 (.one 17 (false)) (.one 18 (true))))))) (.node 29 (.node 24 (.node 21 (.node 20 (.one 19 (true)) (.one 20 (false))) (.node 22 (.one 21 (false)) (.node 23 (.one 22 (true)) (.one 23 (true))))) (.node 26 (.node 25 (.one 24 (true)) (.one 25 (true))) (.node 27 (.one 26 (false)) (.node 28 (.one 27 (false)) (.one 28 (false)))))) (.node 34 (.node 31 (.node 30 (.one 29 (false)) (.one 30 (false))) (.node 32 (.one 31 (true)) (.node 33 (.one 32 (false)) (.one 33 (false))))) (.node 36 (.node 35 (.one 34 (true)) (.one 35 (true))) (.node 37 (.one 36 (false)) (.node 38 (.one 37 (false)) (.one 38 (false)))))))) (.node 59 (.node 49 (.node 44 (.node 41 (.node 40 (.one 39 (false)) (.one 40 (false))) (.node 42 (.one 41 (false)) (.node 43 (.one 42 (false)) (.one 43 (false))))) (.node 46 (.node 45 (.one 44 (false)) (.one 45 (false))) (.node 47 (.one 46 (false)) (.node 48 (.one 47 (false)) (.one 48 (false)))))) (.node 54 (.node 51 (.node 50 (.one 49 (false)) (.one 50 (false))) (.node 52 (.one 51 (false)) (.node 53 (.one 52 (false)) (.one 53 (false))))) (.node 56 (.node 55 (.one 54 (false)) (.one 55 (false))) (.node 57 (.one 56 (false)) (.node 58 (.one 57 (false)) (.one 58 (false))))))) (.node 69 (.node 64 (.node 61 (.node 60 (.one 59 (false)) (.one 60 (false))) (.node 62 (.one 61 (true)) (.node 63 (.one 62 (true)) (.one 63 (false))))) (.node 66 (.node 65 (.one 64 (false)) (.one 65 (false))) (.node 67 (.one 66 (false)) (.node 68 (.one 67 (false)) (.one 68 (false)))))) (.node 74 (.node 71 (.node 70 (.one 69 (false)) (.one 70 (true))) (.node 72 (.one 71 (true)) (.node 73 (.one 72 (true)) (.one 73 (true))))) (.node 76 (.node 75 (.one 74 (false)) (.one 75 (false))) (.node 77 (.one 76 (false)) (.node 78 (.one 77 (false)) (.one 78 (false))))))))) (.node 118 (.node 98 (.node 88 (.node 83 (.node 81 (.node 80 (.one 79 (false)) (.one 80 (false))) (.node 82 (.one 81 (false)) (.one 82 (false)))) (.node 85 (.node 84 (.one 83 (false)) (.one 84 (false))) (.node 86 (.one 85 (false)) (.node 87 (.one 86 (false)) (.one 87 (false)))))) (.node 93 (.node 90 (.node 89 (.one 88 (false)) (.one 89 (false))) (.node 91 (.one 90 (true)) (.node 92 (.one 91 (true)) (.one 92 (true))))) (.node 95 (.node 94 (.one 93 (true)) (.one 94 (false))) (.node 96 (.one 95 (false)) (.node 97 (.one 96 (false)) (.one 97 (false))))))) (.node 108 (.node 103 (.node 100 (.node 99 (.one 98 (false)) (.one 99 (false))) (.node 101 (.one 100 (false)) (.node 102 (.one 101 (false)) (.one 102 (false))))) (.node 105 (.node 104 (.one 103 (false)) (.one 104 (true))) (.node 106 (.one 105 (true)) (.node 107 (.one 106 (false)) (.one 107 (false)))))) (.node 113 (.node 110 (.node 109 (.one 108 (false)) (.one 109 (false))) (.node 111 (.one 110 (false)) (.node 112 (.one 111 (false)) (.one 112 (false))))) (.node 115 (.node 114 (.one 113 (false)) (.one 114 (false))) (.node 116 (.one 115 (false)) (.node 117 (.one 116 (false)) (.one 117 (false)))))))) (.node 138 (.node 128 (.node 123 (.node 120 (.node 119 (.one 118 (false)) (.one 119 (false))) (.node 121 (.one 120 (false)) (.node 122 (.one 121 (false)) (.one 122 (false))))) (.node 125 (.node 124 (.one 123 (false)) (.one 124 (false))) (.node 126 (.one 125 (false)) (.node 127 (.one 126 (false)) (.one 127 (false)))))) (.node 133 (.node 130 (.node 129 (.one 128 (false)) (.one 129 (false))) (.node 131 (.one 130 (true)) (.node 132 (.one 131 (false)) (.one 132 (false))))) (.node 135 (.node 134 (.one 133 (false)) (.one 134 (false))) (.node 136 (.one 135 (false)) (.node 137 (.one 136 (false)) (.one 137 (false))))))) (.node 148 (.node 143 (.node 140 (.node 139 (.one 138 (true)) (.one 139 (false))) (.node 141 (.one 140 (true)) (.node 142 (.one 141 (false)) (.one 142 (false))))) (.node 145 (.node 144 (.one 143 (false)) (.one 144 (true))) (.node 146 (.one 145 (true)) (.node 147 (.one 146 (true)) (.one 147 (true)))))) (.node 153 (.node 150 (.node 149 (.one 148 (true)) (.one 149 (true))) (.node 151 (.one 150 (true)) (.node 152 (.one 151 (false)) (.one 152 (false))))) (.node 155 (.node 154 (.one 153 (false)) (.one 154 (false))) (.node 156 (.one 155 (false)) (.node 157 (.one 156 (false)) (.one 157 (true)))))))))
noncomputable def tm_und : BT (Option TypeDesc) := .node 79 (.node 39 (.node 19 (.node 9 (.node 4 (.node 2 (.node 1 (.one 0 (some (TypeInfo.desc Tryd.t0))) (.one 1 (some (TypeInfo.desc Tryd.t1)))) (.node 3 (.one 2 (some (TypeInfo.desc Tryd.t2))) (.one 3 (some (TypeInfo.desc Tryd.t3))))) (.node 6 (.node 5 (.one 4 (some (TypeInfo.desc Tryd.t4))) (.one 5 (some (TypeInfo.desc Tryd.t5)))) (.node 7 (.one 6 (some (TypeInfo.desc Tryd.t5))) (.node 8 (.one 7 (some (TypeInfo.desc Tryd.t7))) (.one 8 (some (TypeInfo.desc Tryd.t7))))))) (.node 14 (.node 11 (.node 10 (.one 9 (some (TypeInfo.desc Tryd.t9))) (.one 10 (some (TypeInfo.desc Tryd.t9)))) (.node 12 (.one 11 (some (TypeInfo.desc Tryd.t9))) (.node 13 (.one 12 (some (TypeInfo.desc Tryd.t12))) (.one 13 (some (TypeInfo.desc Tryd.t13)))))) (.node 16 (.node 15 (.one 14 (some (TypeInfo.desc Tryd.t13))) (.one 15 (some (TypeInfo.desc Tryd.t15)))) (.node 17 (.one 16 (some (TypeInfo.desc Tryd.t16))) (.node 18 (.one 17 (some (TypeInfo.desc Tryd.t17))) (.one 18 (some (TypeInfo.desc Tryd.t18)))))))) (.node 29 (.node 24 (.node 21 (.node 20 (.one 19 (some (TypeInfo.desc Tryd.t18))) (.one 20 (some (TypeInfo.desc Tryd.t20)))) (.node 22 (.one 21 (some (TypeInfo.desc Tryd.t21))) (.node 23 (.one 22 (some (TypeInfo.desc Tryd.t22))) (.one 23 (some (TypeInfo.desc Tryd.t22)))))) (.node 26 (.node 25 (.one 24 (some (TypeInfo.desc Tryd.t24))) (.one 25 (some (TypeInfo.desc Tryd.t24)))) (.node 27 (.one 26 (some (TypeInfo.desc Tryd.t26))) (.node 28 (.one 27 (some (TypeInfo.desc Tryd.t3))) (.one 28 (some (TypeInfo.desc Tryd.t28))))))) (.node 34 (.node 31 (.node 30 (.one 29 (some (TypeInfo.desc Tryd.t29))) (.one 30 (some (TypeInfo.desc Tryd.t30)))) (.node 32 (.one 31 (some (TypeInfo.desc Tryd.t31))) (.node 33 (.one 32 (some (TypeInfo.desc Tryd.t32))) (.one 33 (some (TypeInfo.desc Tryd.t33)))))) (.node 36 (.node 35 (.one 34 (some (TypeInfo.desc Tryd.t34))) (.one 35 (some (TypeInfo.desc Tryd.t34)))) (.node 37 (.one 36 (some (TypeInfo.desc Tryd.t36))) (.node 38 (.one 37 (some (TypeInfo.desc Tryd.t37))) (.one 38 (some (TypeInfo.desc Tryd.t38))))))))) (.node 59 (.node 49 (.node 44 (.node 41 (.node 40 (.one 39 (some (TypeInfo.desc Tryd.t39))) (.one 40 (some (TypeInfo.desc Tryd.t40)))) (.node 42 (.one 41 (some (TypeInfo.desc Tryd.t41))) (.node 43 (.one 42 (some (TypeInfo.desc Tryd.t42))) (.one 43 (some (TypeInfo.desc Tryd.t43)))))) (.node 46 (.node 45 (.one 44 (some (TypeInfo.desc Tryd.t44))) (.one 45 (some (TypeInfo.desc Tryd.t45)))) (.node 47 (.one 46 (some (TypeInfo.desc Tryd.t46))) (.node 48 (.one 47 (some (TypeInfo.desc Tryd.t47))) (.one 48 (some (TypeInfo.desc Tryd.t48))))))) (.node 54 (.node 51 (.node 50 (.one 49 (some (TypeInfo.desc Tryd.t49))) (.one 50 (some (TypeInfo.desc Tryd.t50)))) (.node 52 (.one 51 (some (TypeInfo.desc Tryd.t51))) (.node 53 (.one 52 (some (TypeInfo.desc Tryd.t52))) (.one 53 (some (TypeInfo.desc Tryd.t53)))))) (.node 56 (.node 55 (.one 54 (some (TypeInfo.desc Tryd.t54))) (.one 55 (some (TypeInfo.desc Tryd.t55)))) (.node 57 (.one 56 (some (TypeInfo.desc Tryd.t56))) (.node 58 (.one 57 (some (TypeInfo.desc Tryd.t57))) (.one 58 (some (TypeInfo.desc Tryd.t58)))))))) (.node 69 (.node 64 (.node 61 (.node 60 (.one 59 (some (TypeInfo.desc Tryd.t59))) (.one 60 (some (TypeInfo.desc Tryd.t60)))) (.node 62 (.one 61 (some (TypeInfo.desc Tryd.t61))) (.node 63 (.one 62 (some (TypeInfo.desc Tryd.t61))) (.one 63 (some (TypeInfo.desc Tryd.t63)))))) (.node 66 (.node 65 (.one 64 (some (TypeInfo.desc Tryd.t64))) (.one 65 (some (TypeInfo.desc Tryd.t65)))) (.node 67 (.one 66 (some (TypeInfo.desc Tryd.t66))) (.node 68 (.one 67 (some (TypeInfo.desc Tryd.t67))) (.one 68 (some (TypeInfo.desc Tryd.t68))))))) (.node 74 (.node 71 (.node 70 (.one 69 (some (TypeInfo.desc Tryd.t69))) (.one 70 (some (TypeInfo.desc Tryd.t70)))) (.node 72 (.one 71 (some (TypeInfo.desc Tryd.t70))) (.node 73 (.one 72 (some (TypeInfo.desc Tryd.t72))) (.one 73 (some (TypeInfo.desc Tryd.t72)))))) (.node 76 (.node 75 (.one 74 (some (TypeInfo.desc Tryd.t74))) (.one 75 (some (TypeInfo.desc Tryd.t75)))) (.node 77 (.one 76 (some (TypeInfo.desc Tryd.t75))) (.node 78 (.one 77 (some (TypeInfo.desc Tryd.t77))) (.one 78 (some (TypeInfo.desc Tryd.t78)))))))))) (.node 118 (.node 98 (.node 88 (.node 83 (.node 81 (.node 80 (.one 79 (some (TypeInfo.desc Tryd.t79))) (.one 80 (some (TypeInfo.desc Tryd.t80)))) (.node 82 (.one 81 (some (TypeInfo.desc Tryd.t81))) (.one 82 (some (TypeInfo.desc Tryd.t82))))) (.node 85 (.node 84 (.one 83 (some (TypeInfo.desc Tryd.t83))) (.one 84 (some (TypeInfo.desc Tryd.t84)))) (.node 86 (.one 85 (some (TypeInfo.desc Tryd.t85))) (.node 87 (.one 86 (some (TypeInfo.desc Tryd.t86))) (.one 87 (some (TypeInfo.desc Tryd.t87))))))) (.node 93 (.node 90 (.node 89 (.one 88 (some (TypeInfo.desc Tryd.t88))) (.one 89 (some (TypeInfo.desc Tryd.t89)))) (.node 91 (.one 90 (some (TypeInfo.desc Tryd.t90))) (.node 92 (.one 91 (some (TypeInfo.desc Tryd.t90))) (.one 92 (some (TypeInfo.desc Tryd.t92)))))) (.node 95 (.node 94 (.one 93 (some (TypeInfo.desc Tryd.t92))) (.one 94 (some (TypeInfo.desc Tryd.t94)))) (.node 96 (.one 95 (some (TypeInfo.desc Tryd.t95))) (.node 97 (.one 96 (some (TypeInfo.desc Tryd.t96))) (.one 97 (some (TypeInfo.desc Tryd.t97)))))))) (.node 108 (.node 103 (.node 100 (.node 99 (.one 98 (some (TypeInfo.desc Tryd.t98))) (.one 99 (some (TypeInfo.desc Tryd.t99)))) (.node 101 (.one 100 (some (TypeInfo.desc Tryd.t100))) (.node 102 (.one 101 (some (TypeInfo.desc Tryd.t101))) (.one 102 (some (TypeInfo.desc Tryd.t102)))))) (.node 105 (.node 104 (.one 103 (some (TypeInfo.desc Tryd.t103))) (.one 104 (some (TypeInfo.desc Tryd.t104)))) (.node 106 (.one 105 (some (TypeInfo.desc Tryd.t104))) (.node 107 (.one 106 (some (TypeInfo.desc Tryd.t106))) (.one 107 (some (TypeInfo.desc Tryd.t107))))))) (.node 113 (.node 110 (.node 109 (.one 108 (some (TypeInfo.desc Tryd.t108))) (.one 109 (some (TypeInfo.desc Tryd.t109)))) (.node 111 (.one 110 (some (TypeInfo.desc Tryd.t110))) (.node 112 (.one 111 (some (TypeInfo.desc Tryd.t111))) (.one 112 (some (TypeInfo.desc Tryd.t112)))))) (.node 115 (.node 114 (.one 113 (some (TypeInfo.desc Tryd.t113))) (.one 114 (some (TypeInfo.desc Tryd.t114)))) (.node 116 (.one 115 (some (TypeInfo.desc Tryd.t115))) (.node 117 (.one 116 (some (TypeInfo.desc Tryd.t116))) (.one 117 (some (TypeInfo.desc Tryd.t117))))))))) (.node 138 (.node 128 (.node 123 (.node 120 (.node 119 (.one 118 (some (TypeInfo.desc Tryd.t118))) (.one 119 (some (TypeInfo.desc Tryd.t119)))) (.node 121 (.one 120 (some (TypeInfo.desc Tryd.t120))) (.node 122 (.one 121 (some (TypeInfo.desc Tryd.t121))) (.one 122 (some (TypeInfo.desc Tryd.t122)))))) (.node 125 (.node 124 (.one 123 (some (TypeInfo.desc Tryd.t123))) (.one 124 (some (TypeInfo.desc Tryd.t124)))) (.node 126 (.one 125 (some (TypeInfo.desc Tryd.t125))) (.node 127 (.one 126 (some (TypeInfo.desc Tryd.t126))) (.one 127 (some (TypeInfo.desc Tryd.t127))))))) (.node 133 (.node 130 (.node 129 (.one 128 (some (TypeInfo.desc Tryd.t128))) (.one 129 (some (TypeInfo.desc Tryd.t129)))) (.node 131 (.one 130 (some (TypeInfo.desc Tryd.t130))) (.node 132 (.one 131 (some (TypeInfo.desc Tryd.t131))) (.one 132 (some (TypeInfo.desc Tryd.t132)))))) (.node 135 (.node 134 (.one 133 (some (TypeInfo.desc Tryd.t133))) (.one 134 (some (TypeInfo.desc Tryd.t134)))) (.node 136 (.one 135 (some (TypeInfo.desc Tryd.t135))) (.node 137 (.one 136 (some (TypeInfo.desc Tryd.t136))) (.one 137 (some (TypeInfo.desc Tryd.t137)))))))) (.node 148 (.node 143 (.node 140 (.node 139 (.one 138 (some (TypeInfo.desc Tryd.t138))) (.one 139 (some (TypeInfo.desc Tryd.t139)))) (.node 141 (.one 140 (some (TypeInfo.desc Tryd.t140))) (.node 142 (.one 141 (some (TypeInfo.desc Tryd.t141))) (.one 142 (some (TypeInfo.desc Tryd.t142)))))) (.node 145 (.node 144 (.one 143 (some (TypeInfo.desc Tryd.t143))) (.one 144 (some (TypeInfo.desc Tryd.t144)))) (.node 146 (.one 145 (some (TypeInfo.desc Tryd.t145))) (.node 147 (.one 146 (some (TypeInfo.desc Tryd.t146))) (.one 147 (some (TypeInfo.desc Tryd.t146))))))) (.node 153 (.node 150 (.node 149 (.one 148 (some (TypeInfo.desc Tryd.t148))) (.one 149 (some (TypeInfo.desc Tryd.t149)))) (.node 151 (.one 150 (some (TypeInfo.desc Tryd.t149))) (.node 152 (.one 151 (some (TypeInfo.desc Tryd.t151))) (.one 152 (some (TypeInfo.desc Tryd.t5)))))) (.node 155 (.node 154 (.one 153 (some (TypeInfo.desc Tryd.t5))) (.one 154 (some (TypeInfo.desc Tryd.t154)))) (.node 156 (.one 155 (some (TypeInfo.desc Tryd.t21))) (.node 157 (.one 156 (some (TypeInfo.desc Tryd.t21))) (.one 157 (some (TypeInfo.desc Tryd.t157))))))))))
noncomputable def tm_info : BT (Option TypeInfo) := .node 79 (.node 39 (.node 19 (.node 9 (.node 4 (.node 2 (.node 1 (.one 0 (some Tryd.t0)) (.one 1 (some Tryd.t1))) (.node 3 (.one 2 (some Tryd.t2)) (.one 3 (some Tryd.t3)))) (.node 6 (.node 5 (.one 4 (some Tryd.t4)) (.one 5 (some Tryd.t5))) (.node 7 (.one 6 (some Tryd.t6)) (.node 8 (.one 7 (some Tryd.t7)) (.one 8 (some Tryd.t8)))))) (.node 14 (.node 11 (.node 10 (.one 9 (some Tryd.t9)) (.one 10 (some Tryd.t10))) (.node 12 (.one 11 (some Tryd.t11)) (.node 13 (.one 12 (some Tryd.t12)) (.one 13 (some Tryd.t13))))) (.node 16 (.node 15 (.one 14 (some Tryd.t14)) (.one 15 (some Tryd.t15))) (.node 17 (.one 16 (some Tryd.t16)) (.node 18 (.one 17 (some Tryd.t17)) (.one 18 (some Tryd.t18))))))) (.node 29 (.node 24 (.node 21 (.node 20 (.one 19 (some Tryd.t19)) (.one 20 (some Tryd.t20))) (.node 22 (.one 21 (some Tryd.t21)) (.node 23 (.one 22 (some Tryd.t22)) (.one 23 (some Tryd.t23))))) (.node 26 (.node 25 (.one 24 (some Tryd.t24)) (.one 25 (some Tryd.t25))) (.node 27 (.one 26 (some Tryd.t26)) (.node 28 (.one 27 (some Tryd.t27)) (.one 28 (some Tryd.t28)))))) (.node 34 (.node 31 (.node 30 (.one 29 (some Tryd.t29)) (.one 30 (some Tryd.t30))) (.node 32 (.one 31 (some Tryd.t31)) (.node 33 (.one 32 (some Tryd.t32)) (.one 33 (some Tryd.t33))))) (.node 36 (.node 35 (.one 34 (some Tryd.t34)) (.one 35 (some Tryd.t35))) (.node 37 (.one 36 (some Tryd.t36)) (.node 38 (.one 37 (some Tryd.t37)) (.one 38 (some Tryd.t38)))))))) (.node 59 (.node 49 (.node 44 (.node 41 (.node 40 (.one 39 (some Tryd.t39)) (.one 40 (some Tryd.t40))) (.node 42 (.one 41 (some Tryd.t41)) (.node 43 (.one 42 (some Tryd.t42)) (.one 43 (some Tryd.t43))))) (.node 46 (.node 45 (.one 44 (some Tryd.t44)) (.one 45 (some Tryd.t45))) (.node 47 (.one 46 (some Tryd.t46)) (.node 48 (.one 47 (some Tryd.t47)) (.one 48 (some Tryd.t48)))))) (.node 54 (.node 51 (.node 50 (.one 49 (some Tryd.t49)) (.one 50 (some Tryd.t50))) (.node 52 (.one 51 (some Tryd.t51)) (.node 53 (.one 52 (some Tryd.t52)) (.one 53 (some Tryd.t53))))) (.node 56 (.node 55 (.one 54 (some Tryd.t54)) (.one 55 (some Tryd.t55))) (.node 57 (.one 56 (some Tryd.t56)) (.node 58 (.one 57 (some Tryd.t57)) (.one 58 (some Tryd.t58))))))) (.node 69 (.node 64 (.node 61 (.node 60 (.one 59 (some Tryd.t59)) (.one 60 (some Tryd.t60))) (.node 62 (.one 61 (some Tryd.t61)) (.node 63 (.one 62 (some Tryd.t62)) (.one 63 (some Tryd.t63))))) (.node 66 (.node 65 (.one 64 (some Tryd.t64)) (.one 65 (some Tryd.t65))) (.node 67 (.one 66 (some Tryd.t66)) (.node 68 (.one 67 (some Tryd.t67)) (.one 68 (some Tryd.t68)))))) (.node 74 (.node 71 (.node 70 (.one 69 (some Tryd.t69)) (.one 70 (some Tryd.t70))) (.node 72 (.one 71 (some Tryd.t71)) (.node 73 (.one 72 (some Tryd.t72)) (.one 73 (some Tryd.t73))))) (.node 76 (.node 75 (.one 74 (some Tryd.t74)) (.one 75 (some Tryd.t75))) (.node 77 (.one 76 (some Tryd.t76)) (.node 78 (.one 77 (some Tryd.t77)) (.one 78 (some Tryd.t78))))))))) (.node 118 (.node 98 (.node 88 (.node 83 (.node 81 (.node 80 (.one 79 (some Tryd.t79)) (.one 80 (some Tryd.t80))) (.node 82 (.one 81 (some Tryd.t81)) (.one 82 (some Tryd.t82)))) (.node 85 (.node 84 (.one 83 (some Tryd.t83)) (.one 84 (some Tryd.t84))) (.node 86 (.one 85 (some Tryd.t85)) (.node 87 (.one 86 (some Tryd.t86)) (.one 87 (some Tryd.t87)))))) (.node 93 (.node 90 (.node 89 (.one 88 (some Tryd.t88)) (.one 89 (some Tryd.t89))) (.node 91 (.one 90 (some Tryd.t90)) (.node 92 (.one 91 (some Tryd.t91)) (.one 92 (some Tryd.t92))))) (.node 95 (.node 94 (.one 93 (some Tryd.t93)) (.one 94 (some Tryd.t94))) (.node 96 (.one 95 (some Tryd.t95)) (.node 97 (.one 96 (some Tryd.t96)) (.one 97 (some Tryd.t97))))))) (.node 108 (.node 103 (.node 100 (.node 99 (.one 98 (some Tryd.t98)) (.one 99 (some Tryd.t99))) (.node 101 (.one 100 (some Tryd.t100)) (.node 102 (.one 101 (some Tryd.t101)) (.one 102 (some Tryd.t102))))) (.node 105 (.node 104 (.one 103 (some Tryd.t103)) (.one 104 (some Tryd.t104))) (.node 106 (.one 105 (some Tryd.t105)) (.node 107 (.one 106 (some Tryd.t106)) (.one 107 (some Tryd.t107)))))) (.node 113 (.node 110 (.node 109 (.one 108 (some Tryd.t108)) (.one 109 (some Tryd.t109))) (.node 111 (.one 110 (some Tryd.t110)) (.node 112 (.one 111 (some Tryd.t111)) (.one 112 (some Tryd.t112))))) (.node 115 (.node 114 (.one 113 (some Tryd.t113)) (.one 114 (some Tryd.t114))) (.node 116 (.one 115 (some Tryd.t115)) (.node 117 (.one 116 (some Tryd.t116)) (.one 117 (some Tryd.t117)))))))) (.node 138 (.node 128 (.node 123 (.node 120 (.node 119 (.one 118 (some Tryd.t118)) (.one 119 (some Tryd.t119))) (.node 121 (.one 120 (some Tryd.t120)) (.node 122 (.one 121 (some Tryd.t121)) (.one 122 (some Tryd.t122))))) (.node 125 (.node 124 (.one 123 (some Tryd.t123)) (.one 124 (some Tryd.t124))) (.node 126 (.one 125 (some Tryd.t125)) (.node 127 (.one 126 (some Tryd.t126)) (.one 127 (some Tryd.t127)))))) (.node 133 (.node 130 (.node 129 (.one 128 (some Tryd.t128)) (.one 129 (some Tryd.t129))) (.node 131 (.one 130 (some Tryd.t130)) (.node 132 (.one 131 (some Tryd.t131)) (.one 132 (some Tryd.t132))))) (.node 135 (.node 134 (.one 133 (some Tryd.t133)) (.one 134 (some Tryd.t134))) (.node 136 (.one 135 (some Tryd.t135)) (.node 137 (.one 136 (some Tryd.t136)) (.one 137 (some Tryd.t137))))))) (.node 148 (.node 143 (.node 140 (.node 139 (.one 138 (some Tryd.t138)) (.one 139 (some Tryd.t139))) (.node 141 (.one 140 (some Tryd.t140)) (.node 142 (.one 141 (some Tryd.t141)) (.one 142 (some Tryd.t142))))) (.node 145 (.node 144 (.one 143 (some Tryd.t143)) (.one 144 (some Tryd.t144))) (.node 146 (.one 145 (some Tryd.t145)) (.node 147 (.one 146 (some Tryd.t146)) (.one 147 (some Tryd.t147)))))) (.node 153 (.node 150 (.node 149 (.one 148 (some Tryd.t148)) (.one 149 (some Tryd.t149))) (.node 151 (.one 150 (some Tryd.t150)) (.node 152 (.one 151 (some Tryd.t151)) (.one 152 (some Tryd.t152))))) (.node 155 (.node 154 (.one 153 (some Tryd.t153)) (.one 154 (some Tryd.t154))) (.node 156 (.one 155 (some Tryd.t155)) (.node 157 (.one 156 (some Tryd.t156)) (.one 157 (some Tryd.t157)))))))))
noncomputable def tm : Memo := ⟨memo tm_und Tryd.prog.underlying, memo tm_kds (kdsOf Tryd.prog 9), memo tm_zero (zeroOf Tryd.prog), memo tm_plain (plainKds Tryd.prog 9), memo tm_guard (Tryd.prog.eqGuardType Tryd.prog.depth), memo tm_size (size? Tryd.prog), memo tm_agg (agg? Tryd.prog), memo tm_sized (Go.Den.sized Tryd.prog), memo tm_info Tryd.prog.info?⟩
theorem tm_und_ok : memo tm_und (Tryd.prog.underlying) = Tryd.prog.underlying := memo_eq (by kernel_rfl)
theorem tm_kds_ok : memo tm_kds (kdsOf Tryd.prog 9) = kdsOf Tryd.prog 9 := memo_eq (by kernel_rfl)
theorem tm_zero_ok : memo tm_zero (zeroOf Tryd.prog) = zeroOf Tryd.prog := memo_eq (by kernel_rfl)
theorem tm_plain_ok : memo tm_plain (plainKds Tryd.prog 9) = plainKds Tryd.prog 9 := memo_eq (by kernel_rfl)
theorem tm_guard_ok : memo tm_guard (Tryd.prog.eqGuardType Tryd.prog.depth) = Tryd.prog.eqGuardType Tryd.prog.depth := memo_eq (by kernel_rfl)
theorem tm_size_ok : memo tm_size (size? Tryd.prog) = size? Tryd.prog := memo_eq (by kernel_rfl)
theorem tm_agg_ok : memo tm_agg (agg? Tryd.prog) = agg? Tryd.prog := memo_eq (by kernel_rfl)
theorem tm_sized_ok : memo tm_sized (Go.Den.sized Tryd.prog) = Go.Den.sized Tryd.prog := memo_eq (by kernel_rfl)
theorem tm_info_ok : memo tm_info (Tryd.prog.info?) = Tryd.prog.info? := memo_eq (by kernel_rfl)
theorem tm_std : tm = Memo.std Tryd.prog := by
  unfold tm Memo.std
  rw [tm_und_ok, tm_kds_ok, tm_zero_ok, tm_plain_ok, tm_guard_ok, tm_size_ok, tm_agg_ok, tm_sized_ok, tm_info_ok]
/-- A function's contract. -/
theorem ac {σ : Spec} {n : Nat} {hs : List Nat} {f : FuncId} {fn : Func} {lv : Live} {keep : Bool} {args : List AV} {ext : List (List AV)} (o : OSh) {y : o.ty} (h1 : SpecOk Tryd.prog σ) (h2 : Tryd.prog.funcs[f]? = some fn) (h3 : fn.name ≠ "runtime.NumGoroutine")
    (h : DM.denFn tm (with_ Tryd.prog σ [] n 0 hs) lv n fn keep args ext o.chk = some y) : Contract Tryd.prog f args ext (o.enc y) :=
  auto_okM tm_std (with_ok mixed (by kernel_rfl) h1 n 0 hs) (with_pick mixed (by kernel_rfl) h1 n 0 hs) mixed h2 h3 h
end Go.Den
namespace Go.Den
open Go.Proofs
set_option maxRecDepth 100000
def ref05_Weight_lv : Live := [(3, [0, 1, 5, 6], [1000, 1001, 1002, 1003]), (7, [0, 1, 5, 6, 7], [1000, 1001, 1002, 1003])]
noncomputable def ref05_Weight_σ (n : Nat) : Spec := Spec.none
theorem ref05_Weight_σok (n : Nat) : SpecOk Tryd.prog (ref05_Weight_σ n) := (SpecOk.none _)
noncomputable def ref05_Weight_Φ (n : Nat) : Orc := with_ Tryd.prog (ref05_Weight_σ n) [] n 0 hsL
noncomputable def ref05_Weight_v (n : Nat) (b0 : Bool) (r1 : Rows) (j2 : Int) : Option (Int × Unit) :=
  DM.denFn tm (ref05_Weight_Φ n) ref05_Weight_lv n Tryd.f15 false [AV.sl b0 kdR r1 Right.no, AV.dv (DV.val (Value.int IntKind.i64 j2))] [] (OSh.chk (OSh.plain (.i IntKind.i64) []))
noncomputable def ref05_Weight_l3 (n : Nat) (b0 : Bool) (r1 : Rows) (j2 : Int) (i0 : Nat) (j5 : Int) (j6 : Int) : Option (Int × Unit) :=
  DM.loopFn tm (ref05_Weight_Φ n) ref05_Weight_lv n Tryd.f15 false [] (OSh.chk (OSh.plain (.i IntKind.i64) [])) 3 [] i0 (St.mk [AV.sl b0 kdR r1 Right.no, AV.dv (DV.val (Value.int IntKind.i64 j2)), Jk, Jk, Jk, AV.dv (DV.val (Value.int IntKind.i64 j5)), AV.dv (DV.val (Value.int IntKind.i64 j6)), Jk, Jk, Jk, Jk, Jk, Jk, Jk, Jk, Jk, Jk, Jk, Jk, Jk, Jk, Jk, Jk, Jk, Jk, Jk, Jk, Jk, Jk, Jk, Jk, Jk, Jk, Jk, Jk, Jk, Jk, Jk, Jk, Jk, Jk, Jk, Jk, Jk, Jk, Jk, Jk, Jk, Jk, Jk, Jk, Jk, Jk, Jk, Jk, Jk, Jk, Jk, Jk, Jk, Jk, Jk, Jk, Jk, Jk, Jk, Jk, Jk, Jk, Jk, Jk, Jk, Jk, Jk, Jk, Jk, Jk] [])
noncomputable def ref05_Weight_l7 (n : Nat) (b0 : Bool) (r1 : Rows) (j2 : Int) (i0 i1 : Nat) (j3 : Int) (j4 : Int) (j7 : Int) : Option (Int × Unit) :=
  DM.loopFn tm (ref05_Weight_Φ n) ref05_Weight_lv n Tryd.f15 false [] (OSh.chk (OSh.plain (.i IntKind.i64) [])) 7 [i0] i1 (St.mk [AV.sl b0 kdR r1 Right.no, AV.dv (DV.val (Value.int IntKind.i64 j2)), Jk, Jk, Jk, AV.dv (DV.val (Value.int IntKind.i64 j3)), AV.dv (DV.val (Value.int IntKind.i64 j7)), AV.dv (DV.val (Value.int IntKind.i64 j4)), Jk, Jk, Jk, Jk, Jk, Jk, Jk, Jk, Jk, Jk, Jk, Jk, Jk, Jk, Jk, Jk, Jk, Jk, Jk, Jk, Jk, Jk, Jk, Jk, Jk, Jk, Jk, Jk, Jk, Jk, Jk, Jk, Jk, Jk, Jk, Jk, Jk, Jk, Jk, Jk, Jk, Jk, Jk, Jk, Jk, Jk, Jk, Jk, Jk, Jk, Jk, Jk, Jk, Jk, Jk, Jk, Jk, Jk, Jk, Jk, Jk, Jk, Jk, Jk, Jk, Jk, Jk, Jk, Jk] [])
theorem ref05_Weight_s3 (n : Nat) (b0 : Bool) (r1 : Rows) (j2 : Int) (i0 : Nat) (j5 : Int) (j6 : Int) : ref05_Weight_l3 n b0 r1 j2 (i0 + 1) j5 j6 =
  bif decide (j6 < (↑(List.length r1) : Int)) then
    bif decide (j5 ≤ j2) then
      if 0 ≤ j6 then
        if j6 < (↑(List.length r1) : Int) then
          if 0 ≤ j6 then
            if j6 < (↑(List.length r1) : Int) then
              ref05_Weight_l7 n b0 r1 j2 i0 n (IntKind.wrap IntKind.i64 (j5 + IntKind.wrap IntKind.i64 (IntKind.wrap IntKind.i64 (1 + (↑(List.length (Row.R (List.getD r1 (Int.toNat j6) []) 5)) : Int)) + IntKind.wrap IntKind.i64 (Int.tdiv (↑(ByteArray.size (Row.S (List.getD r1 (Int.toNat j6) []) 4)) : Int) 16)))) 0 j6
            else none
          else none
        else none
      else none
    else some (j5, ())
  else some (j5, ()) := by kernel_rfl
theorem ref05_Weight_s7 (n : Nat) (b0 : Bool) (r1 : Rows) (j2 : Int) (i0 i1 : Nat) (j3 : Int) (j4 : Int) (j7 : Int) : ref05_Weight_l7 n b0 r1 j2 i0 (i1 + 1) j3 j4 j7 =
  if 0 ≤ j7 then
    if j7 < (↑(List.length r1) : Int) then
      bif decide (j4 < (↑(List.length (Row.R (List.getD r1 (Int.toNat j7) []) 10)) : Int)) then
        bif decide (j3 ≤ j2) then
          if 0 ≤ j7 then
            if j7 < (↑(List.length r1) : Int) then
              if 0 ≤ j4 then
                if j4 < (↑(List.length (Row.R (List.getD r1 (Int.toNat j7) []) 10)) : Int) then
                  if 0 ≤ j7 then
                    if j7 < (↑(List.length r1) : Int) then
                      if 0 ≤ j4 then
                        if j4 < (↑(List.length (Row.R (List.getD r1 (Int.toNat j7) []) 10)) : Int) then
                          ref05_Weight_l7 n b0 r1 j2 i0 i1 (IntKind.wrap IntKind.i64 (j3 + IntKind.wrap IntKind.i64 (IntKind.wrap IntKind.i64 (1 + (↑(List.length (Row.R (List.getD (Row.R (List.getD r1 (Int.toNat j7) []) 10) (Int.toNat j4) []) 5)) : Int)) + IntKind.wrap IntKind.i64 (Int.tdiv (↑(ByteArray.size (Row.S (List.getD (Row.R (List.getD r1 (Int.toNat j7) []) 10) (Int.toNat j4) []) 4)) : Int) 16)))) (IntKind.wrap IntKind.i64 (j4 + 1)) j7
                        else none
                      else none
                    else none
                  else none
                else none
              else none
            else none
          else none
        else ref05_Weight_l3 n b0 r1 j2 i0 j3 (IntKind.wrap IntKind.i64 (j7 + 1))
      else ref05_Weight_l3 n b0 r1 j2 i0 j3 (IntKind.wrap IntKind.i64 (j7 + 1))
    else none
  else none := by kernel_rfl
theorem ref05_Weight_e (n : Nat) (b0 : Bool) (r1 : Rows) (j2 : Int) : ref05_Weight_v n b0 r1 j2 =
  ref05_Weight_l3 n b0 r1 j2 n 0 0 := by kernel_rfl
theorem ref05_Weight_c (n : Nat) (b0 : Bool) (r1 : Rows) (j2 : Int) (y : Int × Unit) (h : ref05_Weight_v n b0 r1 j2 = some y) : Contract Tryd.prog 15 [AV.sl b0 kdR r1 Right.no, AV.dv (DV.val (Value.int IntKind.i64 j2))] [] (OSh.enc (OSh.plain (.i IntKind.i64) []) y) :=
  ac (OSh.plain (.i IntKind.i64) []) (ref05_Weight_σok n) Tryd.func15 (by decide) h
def lex_blank_lv : Live := []
noncomputable def lex_blank_σ (n : Nat) : Spec := Spec.none
theorem lex_blank_σok (n : Nat) : SpecOk Tryd.prog (lex_blank_σ n) := (SpecOk.none _)
noncomputable def lex_blank_Φ (n : Nat) : Orc := with_ Tryd.prog (lex_blank_σ n) [] n 0 hsL
noncomputable def lex_blank_v (n : Nat) (j0 : Int) : Option (Bool × Unit) :=
  DM.denFn tm (lex_blank_Φ n) lex_blank_lv n Tryd.f91 false [AV.dv (DV.val (Value.int IntKind.u8 j0))] [] (OSh.chk (OSh.plain (.b) []))
theorem lex_blank_e (n : Nat) (j0 : Int) : lex_blank_v n j0 =
  bif j0 == 32 then
    some (true, ())
  else bif j0 == 9 then
    some (true, ())
  else bif j0 == 10 then
    some (true, ())
  else some (j0 == 13, ()) := by kernel_rfl
theorem lex_blank_c (n : Nat) (j0 : Int) (y : Bool × Unit) (h : lex_blank_v n j0 = some y) : Contract Tryd.prog 91 [AV.dv (DV.val (Value.int IntKind.u8 j0))] [] (OSh.enc (OSh.plain (.b) []) y) :=
  ac (OSh.plain (.b) []) (lex_blank_σok n) Tryd.func91 (by decide) h
def lex_over_lex_blank_lv : Live := [(1, [0, 1, 2], [1000, 1001, 1002, 1003])]
noncomputable def lex_over_lex_blank_σ (n : Nat) : Spec := (inst 91 [.i IntKind.u8] [] (OSh.plain (.b) []) (fun x e => lex_blank_v n x.1) Spec.none)
theorem lex_over_lex_blank_σok (n : Nat) : SpecOk Tryd.prog (lex_over_lex_blank_σ n) := (inst_ok (fun x e y h => lex_blank_c n x.1 y h) (SpecOk.none _))
noncomputable def lex_over_lex_blank_Φ (n : Nat) : Orc := with_ Tryd.prog (lex_over_lex_blank_σ n) [] n 0 hsL
noncomputable def lex_over_lex_blank_v (n : Nat) (s0 : ByteArray) (j1 : Int) : Option (Int × Unit) :=
  DM.denFn tm (lex_over_lex_blank_Φ n) lex_over_lex_blank_lv n Tryd.f92 false [AV.dv (DV.val (Value.string s0)), AV.dv (DV.val (Value.int IntKind.i64 j1)), AV.fn 91 []] [] (OSh.chk (OSh.plain (.i IntKind.i64) []))
noncomputable def lex_over_lex_blank_l1 (n : Nat) (s0 : ByteArray) (j1 : Int) (i0 : Nat) (j3 : Int) : Option (Int × Unit) :=
  DM.loopFn tm (lex_over_lex_blank_Φ n) lex_over_lex_blank_lv n Tryd.f92 false [] (OSh.chk (OSh.plain (.i IntKind.i64) [])) 1 [] i0 (St.mk [AV.dv (DV.val (Value.string s0)), AV.dv (DV.val (Value.int IntKind.i64 j3)), AV.fn 91 [], Jk, Jk, Jk, Jk, Jk, Jk, Jk, Jk, Jk, Jk, Jk, Jk, Jk, Jk, Jk, Jk, Jk, Jk] [])
theorem lex_over_lex_blank_s1 (n : Nat) (s0 : ByteArray) (j1 : Int) (i0 : Nat) (j3 : Int) : lex_over_lex_blank_l1 n s0 j1 (i0 + 1) j3 =
  bif decide (j3 < (↑(ByteArray.size s0) : Int)) then
    if 0 ≤ j3 then
      if j3 < (↑(ByteArray.size s0) : Int) then
        obind (lex_blank_v n (bt s0 j3)) fun y4 =>
        bif y4.fst then
          lex_over_lex_blank_l1 n s0 j1 i0 (IntKind.wrap IntKind.i64 (j3 + 1))
        else some (j3, ())
      else none
    else none
  else some (j3, ()) := by kernel_rfl
theorem lex_over_lex_blank_e (n : Nat) (s0 : ByteArray) (j1 : Int) : lex_over_lex_blank_v n s0 j1 =
  lex_over_lex_blank_l1 n s0 j1 n j1 := by kernel_rfl
theorem lex_over_lex_blank_c (n : Nat) (s0 : ByteArray) (j1 : Int) (y : Int × Unit) (h : lex_over_lex_blank_v n s0 j1 = some y) : Contract Tryd.prog 92 [AV.dv (DV.val (Value.string s0)), AV.dv (DV.val (Value.int IntKind.i64 j1)), AV.fn 91 []] [] (OSh.enc (OSh.plain (.i IntKind.i64) []) y) :=
  ac (OSh.plain (.i IntKind.i64) []) (lex_over_lex_blank_σok n) Tryd.func92 (by decide) h
def lex_skip_1_lv : Live := []
noncomputable def lex_skip_1_σ (n : Nat) : Spec := Spec.none
theorem lex_skip_1_σok (n : Nat) : SpecOk Tryd.prog (lex_skip_1_σ n) := (SpecOk.none _)
noncomputable def lex_skip_1_Φ (n : Nat) : Orc := with_ Tryd.prog (lex_skip_1_σ n) [] n 0 hsL
noncomputable def lex_skip_1_v (n : Nat) (j0 : Int) : Option (Bool × Unit) :=
  DM.denFn tm (lex_skip_1_Φ n) lex_skip_1_lv n Tryd.f93 false [AV.dv (DV.val (Value.int IntKind.u8 j0))] [] (OSh.chk (OSh.plain (.b) []))
theorem lex_skip_1_e (n : Nat) (j0 : Int) : lex_skip_1_v n j0 =
  some (j0 != 10, ()) := by kernel_rfl
theorem lex_skip_1_c (n : Nat) (j0 : Int) (y : Bool × Unit) (h : lex_skip_1_v n j0 = some y) : Contract Tryd.prog 93 [AV.dv (DV.val (Value.int IntKind.u8 j0))] [] (OSh.enc (OSh.plain (.b) []) y) :=
  ac (OSh.plain (.b) []) (lex_skip_1_σok n) Tryd.func93 (by decide) h
def lex_over_lex_skip_1_lv : Live := [(1, [0, 1, 2], [1000, 1001, 1002, 1003])]
noncomputable def lex_over_lex_skip_1_σ (n : Nat) : Spec := (inst 93 [.i IntKind.u8] [] (OSh.plain (.b) []) (fun x e => lex_skip_1_v n x.1) Spec.none)
theorem lex_over_lex_skip_1_σok (n : Nat) : SpecOk Tryd.prog (lex_over_lex_skip_1_σ n) := (inst_ok (fun x e y h => lex_skip_1_c n x.1 y h) (SpecOk.none _))
noncomputable def lex_over_lex_skip_1_Φ (n : Nat) : Orc := with_ Tryd.prog (lex_over_lex_skip_1_σ n) [] n 0 hsL
noncomputable def lex_over_lex_skip_1_v (n : Nat) (s0 : ByteArray) (j1 : Int) : Option (Int × Unit) :=
  DM.denFn tm (lex_over_lex_skip_1_Φ n) lex_over_lex_skip_1_lv n Tryd.f92 false [AV.dv (DV.val (Value.string s0)), AV.dv (DV.val (Value.int IntKind.i64 j1)), AV.fn 93 []] [] (OSh.chk (OSh.plain (.i IntKind.i64) []))
noncomputable def lex_over_lex_skip_1_l1 (n : Nat) (s0 : ByteArray) (j1 : Int) (i0 : Nat) (j3 : Int) : Option (Int × Unit) :=
  DM.loopFn tm (lex_over_lex_skip_1_Φ n) lex_over_lex_skip_1_lv n Tryd.f92 false [] (OSh.chk (OSh.plain (.i IntKind.i64) [])) 1 [] i0 (St.mk [AV.dv (DV.val (Value.string s0)), AV.dv (DV.val (Value.int IntKind.i64 j3)), AV.fn 93 [], Jk, Jk, Jk, Jk, Jk, Jk, Jk, Jk, Jk, Jk, Jk, Jk, Jk, Jk, Jk, Jk, Jk, Jk] [])
theorem lex_over_lex_skip_1_s1 (n : Nat) (s0 : ByteArray) (j1 : Int) (i0 : Nat) (j3 : Int) : lex_over_lex_skip_1_l1 n s0 j1 (i0 + 1) j3 =
  bif decide (j3 < (↑(ByteArray.size s0) : Int)) then
    if 0 ≤ j3 then
      if j3 < (↑(ByteArray.size s0) : Int) then
        obind (lex_skip_1_v n (bt s0 j3)) fun y4 =>
        bif y4.fst then
          lex_over_lex_skip_1_l1 n s0 j1 i0 (IntKind.wrap IntKind.i64 (j3 + 1))
        else some (j3, ())
      else none
    else none
  else some (j3, ()) := by kernel_rfl
theorem lex_over_lex_skip_1_e (n : Nat) (s0 : ByteArray) (j1 : Int) : lex_over_lex_skip_1_v n s0 j1 =
  lex_over_lex_skip_1_l1 n s0 j1 n j1 := by kernel_rfl
theorem lex_over_lex_skip_1_c (n : Nat) (s0 : ByteArray) (j1 : Int) (y : Int × Unit) (h : lex_over_lex_skip_1_v n s0 j1 = some y) : Contract Tryd.prog 92 [AV.dv (DV.val (Value.string s0)), AV.dv (DV.val (Value.int IntKind.i64 j1)), AV.fn 93 []] [] (OSh.enc (OSh.plain (.i IntKind.i64) []) y) :=
  ac (OSh.plain (.i IntKind.i64) []) (lex_over_lex_skip_1_σok n) Tryd.func92 (by decide) h
def lex_skip_lv : Live := [(1, [0, 1], [1000, 1001, 1002, 1003])]
noncomputable def lex_skip_σ (n : Nat) : Spec := (inst 91 [.i IntKind.u8] [] (OSh.plain (.b) []) (fun x e => lex_blank_v n x.1) (inst 92 [.s, .i IntKind.i64, .fn 91 []] [] (OSh.plain (.i IntKind.i64) []) (fun x e => lex_over_lex_blank_v n x.1 x.2.1) (inst 92 [.s, .i IntKind.i64, .fn 93 []] [] (OSh.plain (.i IntKind.i64) []) (fun x e => lex_over_lex_skip_1_v n x.1 x.2.1) Spec.none)))
theorem lex_skip_σok (n : Nat) : SpecOk Tryd.prog (lex_skip_σ n) := (inst_ok (fun x e y h => lex_blank_c n x.1 y h) (inst_ok (fun x e y h => lex_over_lex_blank_c n x.1 x.2.1 y h) (inst_ok (fun x e y h => lex_over_lex_skip_1_c n x.1 x.2.1 y h) (SpecOk.none _))))
noncomputable def lex_skip_Φ (n : Nat) : Orc := with_ Tryd.prog (lex_skip_σ n) [] n 0 hsL
noncomputable def lex_skip_v (n : Nat) (s0 : ByteArray) (j1 : Int) : Option (Int × Unit) :=
  DM.denFn tm (lex_skip_Φ n) lex_skip_lv n Tryd.f69 false [AV.dv (DV.val (Value.string s0)), AV.dv (DV.val (Value.int IntKind.i64 j1))] [] (OSh.chk (OSh.plain (.i IntKind.i64) []))
noncomputable def lex_skip_l1 (n : Nat) (s0 : ByteArray) (j1 : Int) (i0 : Nat) (j5 : Int) : Option (Int × Unit) :=
  DM.loopFn tm (lex_skip_Φ n) lex_skip_lv n Tryd.f69 false [] (OSh.chk (OSh.plain (.i IntKind.i64) [])) 1 [] i0 (St.mk [AV.dv (DV.val (Value.string s0)), AV.dv (DV.val (Value.int IntKind.i64 j5)), Jk, Jk, Jk, Jk, Jk, Jk, Jk, Jk, Jk, Jk, Jk, Jk, Jk, Jk, Jk, Jk, Jk, Jk, Jk, Jk, Jk, Jk, Jk, Jk] [])
theorem lex_skip_s1 (n : Nat) (s0 : ByteArray) (j1 : Int) (i0 : Nat) (j5 : Int) : lex_skip_l1 n s0 j1 (i0 + 1) j5 =
  bif decide (j5 < (↑(ByteArray.size s0) : Int)) then
    if 0 ≤ j5 then
      if j5 < (↑(ByteArray.size s0) : Int) then
        obind (lex_blank_v n (bt s0 j5)) fun y6 =>
        bif y6.fst then
          obind (lex_over_lex_blank_v n s0 j5) fun y7 =>
          lex_skip_l1 n s0 j1 i0 y7.fst
        else if 0 ≤ j5 then
          if j5 < (↑(ByteArray.size s0) : Int) then
            bif bt s0 j5 == 37 then
              obind (lex_over_lex_skip_1_v n s0 j5) fun y8 =>
              lex_skip_l1 n s0 j1 i0 y8.fst
            else some (j5, ())
          else none
        else none
      else none
    else none
  else some (j5, ()) := by kernel_rfl
theorem lex_skip_e (n : Nat) (s0 : ByteArray) (j1 : Int) : lex_skip_v n s0 j1 =
  lex_skip_l1 n s0 j1 n j1 := by kernel_rfl
theorem lex_skip_c (n : Nat) (s0 : ByteArray) (j1 : Int) (y : Int × Unit) (h : lex_skip_v n s0 j1 = some y) : Contract Tryd.prog 69 [AV.dv (DV.val (Value.string s0)), AV.dv (DV.val (Value.int IntKind.i64 j1))] [] (OSh.enc (OSh.plain (.i IntKind.i64) []) y) :=
  ac (OSh.plain (.i IntKind.i64) []) (lex_skip_σok n) Tryd.func69 (by decide) h
def lex_small_lv : Live := []
noncomputable def lex_small_σ (n : Nat) : Spec := Spec.none
theorem lex_small_σok (n : Nat) : SpecOk Tryd.prog (lex_small_σ n) := (SpecOk.none _)
noncomputable def lex_small_Φ (n : Nat) : Orc := with_ Tryd.prog (lex_small_σ n) [] n 0 hsL
noncomputable def lex_small_v (n : Nat) (j0 : Int) : Option (Bool × Unit) :=
  DM.denFn tm (lex_small_Φ n) lex_small_lv n Tryd.f95 false [AV.dv (DV.val (Value.int IntKind.u8 j0))] [] (OSh.chk (OSh.plain (.b) []))
theorem lex_small_e (n : Nat) (j0 : Int) : lex_small_v n j0 =
  bif decide (j0 ≥ 97) then
    some (decide (j0 ≤ 122), ())
  else some (false, ()) := by kernel_rfl
theorem lex_small_c (n : Nat) (j0 : Int) (y : Bool × Unit) (h : lex_small_v n j0 = some y) : Contract Tryd.prog 95 [AV.dv (DV.val (Value.int IntKind.u8 j0))] [] (OSh.enc (OSh.plain (.b) []) y) :=
  ac (OSh.plain (.b) []) (lex_small_σok n) Tryd.func95 (by decide) h
def lex_great_lv : Live := []
noncomputable def lex_great_σ (n : Nat) : Spec := Spec.none
theorem lex_great_σok (n : Nat) : SpecOk Tryd.prog (lex_great_σ n) := (SpecOk.none _)
noncomputable def lex_great_Φ (n : Nat) : Orc := with_ Tryd.prog (lex_great_σ n) [] n 0 hsL
noncomputable def lex_great_v (n : Nat) (j0 : Int) : Option (Bool × Unit) :=
  DM.denFn tm (lex_great_Φ n) lex_great_lv n Tryd.f96 false [AV.dv (DV.val (Value.int IntKind.u8 j0))] [] (OSh.chk (OSh.plain (.b) []))
theorem lex_great_e (n : Nat) (j0 : Int) : lex_great_v n j0 =
  bif decide (j0 ≥ 65) then
    some (decide (j0 ≤ 90), ())
  else some (false, ()) := by kernel_rfl
theorem lex_great_c (n : Nat) (j0 : Int) (y : Bool × Unit) (h : lex_great_v n j0 = some y) : Contract Tryd.prog 96 [AV.dv (DV.val (Value.int IntKind.u8 j0))] [] (OSh.enc (OSh.plain (.b) []) y) :=
  ac (OSh.plain (.b) []) (lex_great_σok n) Tryd.func96 (by decide) h
def lex_digit_lv : Live := []
noncomputable def lex_digit_σ (n : Nat) : Spec := Spec.none
theorem lex_digit_σok (n : Nat) : SpecOk Tryd.prog (lex_digit_σ n) := (SpecOk.none _)
noncomputable def lex_digit_Φ (n : Nat) : Orc := with_ Tryd.prog (lex_digit_σ n) [] n 0 hsL
noncomputable def lex_digit_v (n : Nat) (j0 : Int) : Option (Bool × Unit) :=
  DM.denFn tm (lex_digit_Φ n) lex_digit_lv n Tryd.f97 false [AV.dv (DV.val (Value.int IntKind.u8 j0))] [] (OSh.chk (OSh.plain (.b) []))
theorem lex_digit_e (n : Nat) (j0 : Int) : lex_digit_v n j0 =
  bif decide (j0 ≥ 48) then
    some (decide (j0 ≤ 57), ())
  else some (false, ()) := by kernel_rfl
theorem lex_digit_c (n : Nat) (j0 : Int) (y : Bool × Unit) (h : lex_digit_v n j0 = some y) : Contract Tryd.prog 97 [AV.dv (DV.val (Value.int IntKind.u8 j0))] [] (OSh.enc (OSh.plain (.b) []) y) :=
  ac (OSh.plain (.b) []) (lex_digit_σok n) Tryd.func97 (by decide) h
def lex_one_1_lv : Live := []
noncomputable def lex_one_1_σ (n : Nat) : Spec := (inst 95 [.i IntKind.u8] [] (OSh.plain (.b) []) (fun x e => lex_small_v n x.1) (inst 96 [.i IntKind.u8] [] (OSh.plain (.b) []) (fun x e => lex_great_v n x.1) (inst 97 [.i IntKind.u8] [] (OSh.plain (.b) []) (fun x e => lex_digit_v n x.1) Spec.none)))
theorem lex_one_1_σok (n : Nat) : SpecOk Tryd.prog (lex_one_1_σ n) := (inst_ok (fun x e y h => lex_small_c n x.1 y h) (inst_ok (fun x e y h => lex_great_c n x.1 y h) (inst_ok (fun x e y h => lex_digit_c n x.1 y h) (SpecOk.none _))))
noncomputable def lex_one_1_Φ (n : Nat) : Orc := with_ Tryd.prog (lex_one_1_σ n) [] n 0 hsL
noncomputable def lex_one_1_v (n : Nat) (j0 : Int) : Option (Bool × Unit) :=
  DM.denFn tm (lex_one_1_Φ n) lex_one_1_lv n Tryd.f94 false [AV.dv (DV.val (Value.int IntKind.u8 j0))] [] (OSh.chk (OSh.plain (.b) []))
theorem lex_one_1_e (n : Nat) (j0 : Int) : lex_one_1_v n j0 =
  obind (lex_small_v n j0) fun y1 =>
  bif y1.fst then
    some (true, ())
  else obind (lex_great_v n j0) fun y2 =>
  bif y2.fst then
    some (true, ())
  else obind (lex_digit_v n j0) fun y3 =>
  bif y3.fst then
    some (true, ())
  else some (j0 == 95, ()) := by kernel_rfl
theorem lex_one_1_c (n : Nat) (j0 : Int) (y : Bool × Unit) (h : lex_one_1_v n j0 = some y) : Contract Tryd.prog 94 [AV.dv (DV.val (Value.int IntKind.u8 j0))] [] (OSh.enc (OSh.plain (.b) []) y) :=
  ac (OSh.plain (.b) []) (lex_one_1_σok n) Tryd.func94 (by decide) h
def lex_over_lex_one_1_lv : Live := [(1, [0, 1, 2], [1000, 1001, 1002, 1003])]
noncomputable def lex_over_lex_one_1_σ (n : Nat) : Spec := (inst 94 [.i IntKind.u8] [] (OSh.plain (.b) []) (fun x e => lex_one_1_v n x.1) Spec.none)
theorem lex_over_lex_one_1_σok (n : Nat) : SpecOk Tryd.prog (lex_over_lex_one_1_σ n) := (inst_ok (fun x e y h => lex_one_1_c n x.1 y h) (SpecOk.none _))
noncomputable def lex_over_lex_one_1_Φ (n : Nat) : Orc := with_ Tryd.prog (lex_over_lex_one_1_σ n) [] n 0 hsL
noncomputable def lex_over_lex_one_1_v (n : Nat) (s0 : ByteArray) (j1 : Int) : Option (Int × Unit) :=
  DM.denFn tm (lex_over_lex_one_1_Φ n) lex_over_lex_one_1_lv n Tryd.f92 false [AV.dv (DV.val (Value.string s0)), AV.dv (DV.val (Value.int IntKind.i64 j1)), AV.fn 94 []] [] (OSh.chk (OSh.plain (.i IntKind.i64) []))
noncomputable def lex_over_lex_one_1_l1 (n : Nat) (s0 : ByteArray) (j1 : Int) (i0 : Nat) (j3 : Int) : Option (Int × Unit) :=
  DM.loopFn tm (lex_over_lex_one_1_Φ n) lex_over_lex_one_1_lv n Tryd.f92 false [] (OSh.chk (OSh.plain (.i IntKind.i64) [])) 1 [] i0 (St.mk [AV.dv (DV.val (Value.string s0)), AV.dv (DV.val (Value.int IntKind.i64 j3)), AV.fn 94 [], Jk, Jk, Jk, Jk, Jk, Jk, Jk, Jk, Jk, Jk, Jk, Jk, Jk, Jk, Jk, Jk, Jk, Jk] [])
theorem lex_over_lex_one_1_s1 (n : Nat) (s0 : ByteArray) (j1 : Int) (i0 : Nat) (j3 : Int) : lex_over_lex_one_1_l1 n s0 j1 (i0 + 1) j3 =
  bif decide (j3 < (↑(ByteArray.size s0) : Int)) then
    if 0 ≤ j3 then
      if j3 < (↑(ByteArray.size s0) : Int) then
        obind (lex_one_1_v n (bt s0 j3)) fun y4 =>
        bif y4.fst then
          lex_over_lex_one_1_l1 n s0 j1 i0 (IntKind.wrap IntKind.i64 (j3 + 1))
        else some (j3, ())
      else none
    else none
  else some (j3, ()) := by kernel_rfl
theorem lex_over_lex_one_1_e (n : Nat) (s0 : ByteArray) (j1 : Int) : lex_over_lex_one_1_v n s0 j1 =
  lex_over_lex_one_1_l1 n s0 j1 n j1 := by kernel_rfl
theorem lex_over_lex_one_1_c (n : Nat) (s0 : ByteArray) (j1 : Int) (y : Int × Unit) (h : lex_over_lex_one_1_v n s0 j1 = some y) : Contract Tryd.prog 92 [AV.dv (DV.val (Value.string s0)), AV.dv (DV.val (Value.int IntKind.i64 j1)), AV.fn 94 []] [] (OSh.enc (OSh.plain (.i IntKind.i64) []) y) :=
  ac (OSh.plain (.i IntKind.i64) []) (lex_over_lex_one_1_σok n) Tryd.func92 (by decide) h
def lex_over_lex_digit_lv : Live := [(1, [0, 1, 2], [1000, 1001, 1002, 1003])]
noncomputable def lex_over_lex_digit_σ (n : Nat) : Spec := (inst 97 [.i IntKind.u8] [] (OSh.plain (.b) []) (fun x e => lex_digit_v n x.1) Spec.none)
theorem lex_over_lex_digit_σok (n : Nat) : SpecOk Tryd.prog (lex_over_lex_digit_σ n) := (inst_ok (fun x e y h => lex_digit_c n x.1 y h) (SpecOk.none _))
noncomputable def lex_over_lex_digit_Φ (n : Nat) : Orc := with_ Tryd.prog (lex_over_lex_digit_σ n) [] n 0 hsL
noncomputable def lex_over_lex_digit_v (n : Nat) (s0 : ByteArray) (j1 : Int) : Option (Int × Unit) :=
  DM.denFn tm (lex_over_lex_digit_Φ n) lex_over_lex_digit_lv n Tryd.f92 false [AV.dv (DV.val (Value.string s0)), AV.dv (DV.val (Value.int IntKind.i64 j1)), AV.fn 97 []] [] (OSh.chk (OSh.plain (.i IntKind.i64) []))
noncomputable def lex_over_lex_digit_l1 (n : Nat) (s0 : ByteArray) (j1 : Int) (i0 : Nat) (j3 : Int) : Option (Int × Unit) :=
  DM.loopFn tm (lex_over_lex_digit_Φ n) lex_over_lex_digit_lv n Tryd.f92 false [] (OSh.chk (OSh.plain (.i IntKind.i64) [])) 1 [] i0 (St.mk [AV.dv (DV.val (Value.string s0)), AV.dv (DV.val (Value.int IntKind.i64 j3)), AV.fn 97 [], Jk, Jk, Jk, Jk, Jk, Jk, Jk, Jk, Jk, Jk, Jk, Jk, Jk, Jk, Jk, Jk, Jk, Jk] [])
theorem lex_over_lex_digit_s1 (n : Nat) (s0 : ByteArray) (j1 : Int) (i0 : Nat) (j3 : Int) : lex_over_lex_digit_l1 n s0 j1 (i0 + 1) j3 =
  bif decide (j3 < (↑(ByteArray.size s0) : Int)) then
    if 0 ≤ j3 then
      if j3 < (↑(ByteArray.size s0) : Int) then
        obind (lex_digit_v n (bt s0 j3)) fun y4 =>
        bif y4.fst then
          lex_over_lex_digit_l1 n s0 j1 i0 (IntKind.wrap IntKind.i64 (j3 + 1))
        else some (j3, ())
      else none
    else none
  else some (j3, ()) := by kernel_rfl
theorem lex_over_lex_digit_e (n : Nat) (s0 : ByteArray) (j1 : Int) : lex_over_lex_digit_v n s0 j1 =
  lex_over_lex_digit_l1 n s0 j1 n j1 := by kernel_rfl
theorem lex_over_lex_digit_c (n : Nat) (s0 : ByteArray) (j1 : Int) (y : Int × Unit) (h : lex_over_lex_digit_v n s0 j1 = some y) : Contract Tryd.prog 92 [AV.dv (DV.val (Value.string s0)), AV.dv (DV.val (Value.int IntKind.i64 j1)), AV.fn 97 []] [] (OSh.enc (OSh.plain (.i IntKind.i64) []) y) :=
  ac (OSh.plain (.i IntKind.i64) []) (lex_over_lex_digit_σok n) Tryd.func92 (by decide) h
def lex_number_lv : Live := [(8, [0, 4, 5, 30, 31], [1000, 1001, 1002, 1003])]
noncomputable def lex_number_σ (n : Nat) : Spec := Spec.none
theorem lex_number_σok (n : Nat) : SpecOk Tryd.prog (lex_number_σ n) := (SpecOk.none _)
noncomputable def lex_number_Φ (n : Nat) : Orc := with_ Tryd.prog (lex_number_σ n) [] n 0 hsL
noncomputable def lex_number_v (n : Nat) (s0 : ByteArray) : Option ((Int × Bool × Unit) × Unit) :=
  DM.denFn tm (lex_number_Φ n) lex_number_lv n Tryd.f98 false [AV.dv (DV.val (Value.string s0))] [] (OSh.chk (OSh.plain (.tup [.i IntKind.i64, .b]) []))
noncomputable def lex_number_l8 (n : Nat) (s0 : ByteArray) (i0 : Nat) (s1 : ByteArray) (j2 : Int) (j3 : Int) (j4 : Int) : Option ((Int × Bool × Unit) × Unit) :=
  DM.loopFn tm (lex_number_Φ n) lex_number_lv n Tryd.f98 false [] (OSh.chk (OSh.plain (.tup [.i IntKind.i64, .b]) [])) 8 [] i0 (St.mk [AV.dv (DV.val (Value.string s1)), Jk, Jk, Jk, AV.dv (DV.val (Value.bool (bt s0 0 == 45))), AV.dv (DV.val (Value.int IntKind.i64 j3)), Jk, Jk, Jk, Jk, Jk, Jk, Jk, Jk, Jk, Jk, Jk, Jk, Jk, Jk, Jk, Jk, Jk, Jk, Jk, Jk, Jk, Jk, Jk, Jk, AV.dv (DV.val (Value.int IntKind.i64 j2)), AV.dv (DV.val (Value.int IntKind.i64 j4)), Jk, Jk, Jk, Jk, Jk, Jk, Jk, Jk, Jk, Jk, Jk, Jk, Jk, Jk, Jk, Jk, Jk, Jk, Jk, Jk, Jk, Jk, Jk] [])
theorem lex_number_s8 (n : Nat) (s0 : ByteArray) (i0 : Nat) (s1 : ByteArray) (j2 : Int) (j3 : Int) (j4 : Int) : lex_number_l8 n s0 (i0 + 1) s1 j2 j3 j4 =
  bif decide (j4 < j2) then
    if 0 ≤ j4 then
      if j4 < (↑(ByteArray.size s1) : Int) then
        bif decide (j3 < IntKind.wrap IntKind.i64 (Int.tdiv (IntKind.wrap IntKind.i64 (-9223372036854775808 + IntKind.wrap IntKind.i64 (IntKind.wrap IntKind.u8 (bt s1 j4 - 48)))) 10)) then
          some ((0, (false, ())), ())
        else lex_number_l8 n s0 i0 s1 j2 (IntKind.wrap IntKind.i64 (IntKind.wrap IntKind.i64 (10 * j3) - IntKind.wrap IntKind.i64 (IntKind.wrap IntKind.u8 (bt s1 j4 - 48)))) (IntKind.wrap IntKind.i64 (j4 + 1))
      else none
    else none
  else bif bt s0 0 == 45 then
    some ((j3, (true, ())), ())
  else some ((IntKind.wrap IntKind.i64 (0 - j3), (j3 != -9223372036854775808, ())), ()) := by kernel_rfl
theorem lex_number_e (n : Nat) (s0 : ByteArray) : lex_number_v n s0 =
  if 0 < (↑(ByteArray.size s0) : Int) then
    bif bt s0 0 == 45 then
      if 1 ≤ (↑(ByteArray.size s0) : Int) then
        if (↑(ByteArray.size s0) : Int) ≤ (↑(ByteArray.size s0) : Int) then
          bif ByteArray.extract s0 1 (Int.toNat (↑(ByteArray.size s0) : Int)) == ByteArray.mk #[] then
            some ((0, (false, ())), ())
          else if 0 < (↑(ByteArray.size (ByteArray.extract s0 1 (Int.toNat (↑(ByteArray.size s0) : Int)))) : Int) then
            bif bt (ByteArray.extract s0 1 (Int.toNat (↑(ByteArray.size s0) : Int))) 0 == 48 then
              bif bt s0 0 == 45 then
                some ((0, (false, ())), ())
              else bif decide ((↑(ByteArray.size (ByteArray.extract s0 1 (Int.toNat (↑(ByteArray.size s0) : Int)))) : Int) > 1) then
                some ((0, (false, ())), ())
              else lex_number_l8 n s0 n (ByteArray.extract s0 1 (Int.toNat (↑(ByteArray.size s0) : Int))) ((↑(ByteArray.size (ByteArray.extract s0 1 (Int.toNat (↑(ByteArray.size s0) : Int)))) : Int)) 0 0
            else lex_number_l8 n s0 n (ByteArray.extract s0 1 (Int.toNat (↑(ByteArray.size s0) : Int))) ((↑(ByteArray.size (ByteArray.extract s0 1 (Int.toNat (↑(ByteArray.size s0) : Int)))) : Int)) 0 0
          else none
        else none
      else none
    else bif s0 == ByteArray.mk #[] then
      some ((0, (false, ())), ())
    else if 0 < (↑(ByteArray.size s0) : Int) then
      bif bt s0 0 == 48 then
        bif bt s0 0 == 45 then
          some ((0, (false, ())), ())
        else bif decide ((↑(ByteArray.size s0) : Int) > 1) then
          some ((0, (false, ())), ())
        else lex_number_l8 n s0 n s0 ((↑(ByteArray.size s0) : Int)) 0 0
      else lex_number_l8 n s0 n s0 ((↑(ByteArray.size s0) : Int)) 0 0
    else none
  else none := by kernel_rfl
theorem lex_number_c (n : Nat) (s0 : ByteArray) (y : (Int × Bool × Unit) × Unit) (h : lex_number_v n s0 = some y) : Contract Tryd.prog 98 [AV.dv (DV.val (Value.string s0))] [] (OSh.enc (OSh.plain (.tup [.i IntKind.i64, .b]) []) y) :=
  ac (OSh.plain (.tup [.i IntKind.i64, .b]) []) (lex_number_σok n) Tryd.func98 (by decide) h
def lex_quoted_1_lv : Live := []
noncomputable def lex_quoted_1_σ (n : Nat) : Spec := Spec.none
theorem lex_quoted_1_σok (n : Nat) : SpecOk Tryd.prog (lex_quoted_1_σ n) := (SpecOk.none _)
noncomputable def lex_quoted_1_Φ (n : Nat) : Orc := with_ Tryd.prog (lex_quoted_1_σ n) [] n 0 hsL
noncomputable def lex_quoted_1_v (n : Nat) (j0 : Int) : Option (Bool × Unit) :=
  DM.denFn tm (lex_quoted_1_Φ n) lex_quoted_1_lv n Tryd.f106 false [AV.dv (DV.val (Value.int IntKind.u8 j0))] [] (OSh.chk (OSh.plain (.b) []))
theorem lex_quoted_1_e (n : Nat) (j0 : Int) : lex_quoted_1_v n j0 =
  bif decide (j0 ≥ 32) then
    bif decide (j0 ≤ 126) then
      bif j0 != 34 then
        some (j0 != 92, ())
      else some (false, ())
    else some (false, ())
  else some (false, ()) := by kernel_rfl
theorem lex_quoted_1_c (n : Nat) (j0 : Int) (y : Bool × Unit) (h : lex_quoted_1_v n j0 = some y) : Contract Tryd.prog 106 [AV.dv (DV.val (Value.int IntKind.u8 j0))] [] (OSh.enc (OSh.plain (.b) []) y) :=
  ac (OSh.plain (.b) []) (lex_quoted_1_σok n) Tryd.func106 (by decide) h
def lex_over_lex_quoted_1_lv : Live := [(1, [0, 1, 2], [1000, 1001, 1002, 1003])]
noncomputable def lex_over_lex_quoted_1_σ (n : Nat) : Spec := (inst 106 [.i IntKind.u8] [] (OSh.plain (.b) []) (fun x e => lex_quoted_1_v n x.1) Spec.none)
theorem lex_over_lex_quoted_1_σok (n : Nat) : SpecOk Tryd.prog (lex_over_lex_quoted_1_σ n) := (inst_ok (fun x e y h => lex_quoted_1_c n x.1 y h) (SpecOk.none _))
noncomputable def lex_over_lex_quoted_1_Φ (n : Nat) : Orc := with_ Tryd.prog (lex_over_lex_quoted_1_σ n) [] n 0 hsL
noncomputable def lex_over_lex_quoted_1_v (n : Nat) (s0 : ByteArray) (j1 : Int) : Option (Int × Unit) :=
  DM.denFn tm (lex_over_lex_quoted_1_Φ n) lex_over_lex_quoted_1_lv n Tryd.f92 false [AV.dv (DV.val (Value.string s0)), AV.dv (DV.val (Value.int IntKind.i64 j1)), AV.fn 106 []] [] (OSh.chk (OSh.plain (.i IntKind.i64) []))
noncomputable def lex_over_lex_quoted_1_l1 (n : Nat) (s0 : ByteArray) (j1 : Int) (i0 : Nat) (j3 : Int) : Option (Int × Unit) :=
  DM.loopFn tm (lex_over_lex_quoted_1_Φ n) lex_over_lex_quoted_1_lv n Tryd.f92 false [] (OSh.chk (OSh.plain (.i IntKind.i64) [])) 1 [] i0 (St.mk [AV.dv (DV.val (Value.string s0)), AV.dv (DV.val (Value.int IntKind.i64 j3)), AV.fn 106 [], Jk, Jk, Jk, Jk, Jk, Jk, Jk, Jk, Jk, Jk, Jk, Jk, Jk, Jk, Jk, Jk, Jk, Jk] [])
theorem lex_over_lex_quoted_1_s1 (n : Nat) (s0 : ByteArray) (j1 : Int) (i0 : Nat) (j3 : Int) : lex_over_lex_quoted_1_l1 n s0 j1 (i0 + 1) j3 =
  bif decide (j3 < (↑(ByteArray.size s0) : Int)) then
    if 0 ≤ j3 then
      if j3 < (↑(ByteArray.size s0) : Int) then
        obind (lex_quoted_1_v n (bt s0 j3)) fun y4 =>
        bif y4.fst then
          lex_over_lex_quoted_1_l1 n s0 j1 i0 (IntKind.wrap IntKind.i64 (j3 + 1))
        else some (j3, ())
      else none
    else none
  else some (j3, ()) := by kernel_rfl
theorem lex_over_lex_quoted_1_e (n : Nat) (s0 : ByteArray) (j1 : Int) : lex_over_lex_quoted_1_v n s0 j1 =
  lex_over_lex_quoted_1_l1 n s0 j1 n j1 := by kernel_rfl
theorem lex_over_lex_quoted_1_c (n : Nat) (s0 : ByteArray) (j1 : Int) (y : Int × Unit) (h : lex_over_lex_quoted_1_v n s0 j1 = some y) : Contract Tryd.prog 92 [AV.dv (DV.val (Value.string s0)), AV.dv (DV.val (Value.int IntKind.i64 j1)), AV.fn 106 []] [] (OSh.enc (OSh.plain (.i IntKind.i64) []) y) :=
  ac (OSh.plain (.i IntKind.i64) []) (lex_over_lex_quoted_1_σok n) Tryd.func92 (by decide) h
def lex_quoted_lv : Live := []
noncomputable def lex_quoted_σ (n : Nat) : Spec := (inst 92 [.s, .i IntKind.i64, .fn 106 []] [] (OSh.plain (.i IntKind.i64) []) (fun x e => lex_over_lex_quoted_1_v n x.1 x.2.1) Spec.none)
theorem lex_quoted_σok (n : Nat) : SpecOk Tryd.prog (lex_quoted_σ n) := (inst_ok (fun x e y h => lex_over_lex_quoted_1_c n x.1 x.2.1 y h) (SpecOk.none _))
noncomputable def lex_quoted_Φ (n : Nat) : Orc := with_ Tryd.prog (lex_quoted_σ n) [] n 0 hsL
noncomputable def lex_quoted_v (n : Nat) (s0 : ByteArray) (j1 : Int) : Option ((ByteArray × Int × Bool × Unit) × Unit) :=
  DM.denFn tm (lex_quoted_Φ n) lex_quoted_lv n Tryd.f99 false [AV.dv (DV.val (Value.string s0)), AV.dv (DV.val (Value.int IntKind.i64 j1))] [] (OSh.chk (OSh.plain (.tup [.s, .i IntKind.i64, .b]) []))
theorem lex_quoted_e (n : Nat) (s0 : ByteArray) (j1 : Int) : lex_quoted_v n s0 j1 =
  obind (lex_over_lex_quoted_1_v n s0 (IntKind.wrap IntKind.i64 (j1 + 1))) fun y2 =>
  bif decide (y2.fst ≥ (↑(ByteArray.size s0) : Int)) then
    some ((ByteArray.mk #[], (0, (false, ()))), ())
  else if 0 ≤ y2.fst then
    if y2.fst < (↑(ByteArray.size s0) : Int) then
      bif bt s0 y2.fst != 34 then
        some ((ByteArray.mk #[], (0, (false, ()))), ())
      else if 0 ≤ IntKind.wrap IntKind.i64 (j1 + 1) then
        if IntKind.wrap IntKind.i64 (j1 + 1) ≤ y2.fst then
          if y2.fst ≤ (↑(ByteArray.size s0) : Int) then
            some ((ByteArray.extract s0 (Int.toNat (IntKind.wrap IntKind.i64 (j1 + 1))) (Int.toNat y2.fst), (IntKind.wrap IntKind.i64 (y2.fst + 1), (true, ()))), ())
          else none
        else none
      else none
    else none
  else none := by kernel_rfl
theorem lex_quoted_c (n : Nat) (s0 : ByteArray) (j1 : Int) (y : (ByteArray × Int × Bool × Unit) × Unit) (h : lex_quoted_v n s0 j1 = some y) : Contract Tryd.prog 99 [AV.dv (DV.val (Value.string s0)), AV.dv (DV.val (Value.int IntKind.i64 j1))] [] (OSh.enc (OSh.plain (.tup [.s, .i IntKind.i64, .b]) []) y) :=
  ac (OSh.plain (.tup [.s, .i IntKind.i64, .b]) []) (lex_quoted_σok n) Tryd.func99 (by decide) h
def lex_one_lv : Live := []
noncomputable def lex_one_σ (n : Nat) : Spec := (inst 95 [.i IntKind.u8] [] (OSh.plain (.b) []) (fun x e => lex_small_v n x.1) (inst 92 [.s, .i IntKind.i64, .fn 94 []] [] (OSh.plain (.i IntKind.i64) []) (fun x e => lex_over_lex_one_1_v n x.1 x.2.1) (inst 96 [.i IntKind.u8] [] (OSh.plain (.b) []) (fun x e => lex_great_v n x.1) (inst 97 [.i IntKind.u8] [] (OSh.plain (.b) []) (fun x e => lex_digit_v n x.1) (inst 92 [.s, .i IntKind.i64, .fn 97 []] [] (OSh.plain (.i IntKind.i64) []) (fun x e => lex_over_lex_digit_v n x.1 x.2.1) (inst 98 [.s] [] (OSh.plain (.tup [.i IntKind.i64, .b]) []) (fun x e => lex_number_v n x.1) (inst 99 [.s, .i IntKind.i64] [] (OSh.plain (.tup [.s, .i IntKind.i64, .b]) []) (fun x e => lex_quoted_v n x.1 x.2.1) Spec.none)))))))
theorem lex_one_σok (n : Nat) : SpecOk Tryd.prog (lex_one_σ n) := (inst_ok (fun x e y h => lex_small_c n x.1 y h) (inst_ok (fun x e y h => lex_over_lex_one_1_c n x.1 x.2.1 y h) (inst_ok (fun x e y h => lex_great_c n x.1 y h) (inst_ok (fun x e y h => lex_digit_c n x.1 y h) (inst_ok (fun x e y h => lex_over_lex_digit_c n x.1 x.2.1 y h) (inst_ok (fun x e y h => lex_number_c n x.1 y h) (inst_ok (fun x e y h => lex_quoted_c n x.1 x.2.1 y h) (SpecOk.none _))))))))
noncomputable def lex_one_Φ (n : Nat) : Orc := with_ Tryd.prog (lex_one_σ n) [] n 0 hsL
noncomputable def lex_one_v (n : Nat) (s0 : ByteArray) (j1 : Int) : Option (((Int × ByteArray × Int × Int × Unit) × Int × Int × Unit) × Unit) :=
  DM.denFn tm (lex_one_Φ n) lex_one_lv n Tryd.f70 false [AV.dv (DV.val (Value.string s0)), AV.dv (DV.val (Value.int IntKind.i64 j1))] [] (OSh.chk (OSh.plain (.tup [.agg [.i IntKind.i64, .s, .i IntKind.i64, .i IntKind.i64], .i IntKind.i64, .i IntKind.i64]) []))
theorem lex_one_e (n : Nat) (s0 : ByteArray) (j1 : Int) : lex_one_v n s0 j1 =
  if 0 ≤ j1 then
    if j1 < (↑(ByteArray.size s0) : Int) then
      obind (lex_small_v n (bt s0 j1)) fun y2 =>
      bif y2.fst then
        obind (lex_over_lex_one_1_v n s0 j1) fun y3 =>
        if 0 ≤ j1 then
          if j1 ≤ y3.fst then
            if y3.fst ≤ (↑(ByteArray.size s0) : Int) then
              bif decide ((↑(ByteArray.size (ByteArray.extract s0 (Int.toNat j1) (Int.toNat y3.fst))) : Int) > 32) then
                some (((1, (ByteArray.extract s0 (Int.toNat j1) (Int.toNat y3.fst), (0, (j1, ())))), (0, (71, ()))), ())
              else some (((1, (ByteArray.extract s0 (Int.toNat j1) (Int.toNat y3.fst), (0, (j1, ())))), (y3.fst, (0, ()))), ())
            else none
          else none
        else none
      else obind (lex_great_v n (bt s0 j1)) fun y4 =>
      bif y4.fst then
        obind (lex_over_lex_one_1_v n s0 j1) fun y5 =>
        if 0 ≤ j1 then
          if j1 ≤ y5.fst then
            if y5.fst ≤ (↑(ByteArray.size s0) : Int) then
              bif decide ((↑(ByteArray.size (ByteArray.extract s0 (Int.toNat j1) (Int.toNat y5.fst))) : Int) > 32) then
                some (((2, (ByteArray.extract s0 (Int.toNat j1) (Int.toNat y5.fst), (0, (j1, ())))), (0, (71, ()))), ())
              else some (((2, (ByteArray.extract s0 (Int.toNat j1) (Int.toNat y5.fst), (0, (j1, ())))), (y5.fst, (0, ()))), ())
            else none
          else none
        else none
      else obind (lex_digit_v n (bt s0 j1)) fun y6 =>
      bif y6.fst then
        obind (lex_over_lex_digit_v n s0 (IntKind.wrap IntKind.i64 (j1 + 1))) fun y7 =>
        if 0 ≤ j1 then
          if j1 ≤ y7.fst then
            if y7.fst ≤ (↑(ByteArray.size s0) : Int) then
              obind (lex_number_v n (ByteArray.extract s0 (Int.toNat j1) (Int.toNat y7.fst))) fun y8 =>
              bif !y8.fst.snd.fst then
                some (((0, (ByteArray.mk #[], (0, (j1, ())))), (0, (70, ()))), ())
              else some (((3, (ByteArray.mk #[], (y8.fst.fst, (j1, ())))), (y7.fst, (0, ()))), ())
            else none
          else none
        else none
      else bif bt s0 j1 == 45 then
        obind (lex_over_lex_digit_v n s0 (IntKind.wrap IntKind.i64 (j1 + 1))) fun y9 =>
        if 0 ≤ j1 then
          if j1 ≤ y9.fst then
            if y9.fst ≤ (↑(ByteArray.size s0) : Int) then
              obind (lex_number_v n (ByteArray.extract s0 (Int.toNat j1) (Int.toNat y9.fst))) fun y10 =>
              bif !y10.fst.snd.fst then
                some (((0, (ByteArray.mk #[], (0, (j1, ())))), (0, (70, ()))), ())
              else some (((3, (ByteArray.mk #[], (y10.fst.fst, (j1, ())))), (y9.fst, (0, ()))), ())
            else none
          else none
        else none
      else bif bt s0 j1 == 34 then
        obind (lex_quoted_v n s0 j1) fun y11 =>
        bif !y11.fst.snd.snd.fst then
          some (((0, (ByteArray.mk #[], (0, (j1, ())))), (0, (70, ()))), ())
        else bif decide ((↑(ByteArray.size y11.fst.fst) : Int) > 32) then
          some (((4, (y11.fst.fst, (0, (j1, ())))), (0, (71, ()))), ())
        else some (((4, (y11.fst.fst, (0, (j1, ())))), (y11.fst.snd.fst, (0, ()))), ())
      else bif bt s0 j1 == 58 then
        bif decide (IntKind.wrap IntKind.i64 (j1 + 1) < (↑(ByteArray.size s0) : Int)) then
          if 0 ≤ IntKind.wrap IntKind.i64 (j1 + 1) then
            if IntKind.wrap IntKind.i64 (j1 + 1) < (↑(ByteArray.size s0) : Int) then
              bif bt s0 (IntKind.wrap IntKind.i64 (j1 + 1)) == 45 then
                if 0 ≤ j1 then
                  if j1 ≤ IntKind.wrap IntKind.i64 (IntKind.wrap IntKind.i64 (j1 + 1) + 1) then
                    if IntKind.wrap IntKind.i64 (IntKind.wrap IntKind.i64 (j1 + 1) + 1) ≤ (↑(ByteArray.size s0) : Int) then
                      bif decide ((↑(ByteArray.size (ByteArray.extract s0 (Int.toNat j1) (Int.toNat (IntKind.wrap IntKind.i64 (IntKind.wrap IntKind.i64 (j1 + 1) + 1))))) : Int) > 32) then
                        some (((5, (ByteArray.extract s0 (Int.toNat j1) (Int.toNat (IntKind.wrap IntKind.i64 (IntKind.wrap IntKind.i64 (j1 + 1) + 1))), (0, (j1, ())))), (0, (71, ()))), ())
                      else some (((5, (ByteArray.extract s0 (Int.toNat j1) (Int.toNat (IntKind.wrap IntKind.i64 (IntKind.wrap IntKind.i64 (j1 + 1) + 1))), (0, (j1, ())))), (IntKind.wrap IntKind.i64 (IntKind.wrap IntKind.i64 (j1 + 1) + 1), (0, ()))), ())
                    else none
                  else none
                else none
              else bif bt s0 j1 == 40 then
                if 0 ≤ j1 then
                  if j1 ≤ IntKind.wrap IntKind.i64 (j1 + 1) then
                    if IntKind.wrap IntKind.i64 (j1 + 1) ≤ (↑(ByteArray.size s0) : Int) then
                      bif decide ((↑(ByteArray.size (ByteArray.extract s0 (Int.toNat j1) (Int.toNat (IntKind.wrap IntKind.i64 (j1 + 1))))) : Int) > 32) then
                        some (((5, (ByteArray.extract s0 (Int.toNat j1) (Int.toNat (IntKind.wrap IntKind.i64 (j1 + 1))), (0, (j1, ())))), (0, (71, ()))), ())
                      else some (((5, (ByteArray.extract s0 (Int.toNat j1) (Int.toNat (IntKind.wrap IntKind.i64 (j1 + 1))), (0, (j1, ())))), (IntKind.wrap IntKind.i64 (j1 + 1), (0, ()))), ())
                    else none
                  else none
                else none
              else bif bt s0 j1 == 41 then
                if 0 ≤ j1 then
                  if j1 ≤ IntKind.wrap IntKind.i64 (j1 + 1) then
                    if IntKind.wrap IntKind.i64 (j1 + 1) ≤ (↑(ByteArray.size s0) : Int) then
                      bif decide ((↑(ByteArray.size (ByteArray.extract s0 (Int.toNat j1) (Int.toNat (IntKind.wrap IntKind.i64 (j1 + 1))))) : Int) > 32) then
                        some (((5, (ByteArray.extract s0 (Int.toNat j1) (Int.toNat (IntKind.wrap IntKind.i64 (j1 + 1))), (0, (j1, ())))), (0, (71, ()))), ())
                      else some (((5, (ByteArray.extract s0 (Int.toNat j1) (Int.toNat (IntKind.wrap IntKind.i64 (j1 + 1))), (0, (j1, ())))), (IntKind.wrap IntKind.i64 (j1 + 1), (0, ()))), ())
                    else none
                  else none
                else none
              else bif bt s0 j1 == 44 then
                if 0 ≤ j1 then
                  if j1 ≤ IntKind.wrap IntKind.i64 (j1 + 1) then
                    if IntKind.wrap IntKind.i64 (j1 + 1) ≤ (↑(ByteArray.size s0) : Int) then
                      bif decide ((↑(ByteArray.size (ByteArray.extract s0 (Int.toNat j1) (Int.toNat (IntKind.wrap IntKind.i64 (j1 + 1))))) : Int) > 32) then
                        some (((5, (ByteArray.extract s0 (Int.toNat j1) (Int.toNat (IntKind.wrap IntKind.i64 (j1 + 1))), (0, (j1, ())))), (0, (71, ()))), ())
                      else some (((5, (ByteArray.extract s0 (Int.toNat j1) (Int.toNat (IntKind.wrap IntKind.i64 (j1 + 1))), (0, (j1, ())))), (IntKind.wrap IntKind.i64 (j1 + 1), (0, ()))), ())
                    else none
                  else none
                else none
              else bif bt s0 j1 == 46 then
                if 0 ≤ j1 then
                  if j1 ≤ IntKind.wrap IntKind.i64 (j1 + 1) then
                    if IntKind.wrap IntKind.i64 (j1 + 1) ≤ (↑(ByteArray.size s0) : Int) then
                      bif decide ((↑(ByteArray.size (ByteArray.extract s0 (Int.toNat j1) (Int.toNat (IntKind.wrap IntKind.i64 (j1 + 1))))) : Int) > 32) then
                        some (((5, (ByteArray.extract s0 (Int.toNat j1) (Int.toNat (IntKind.wrap IntKind.i64 (j1 + 1))), (0, (j1, ())))), (0, (71, ()))), ())
                      else some (((5, (ByteArray.extract s0 (Int.toNat j1) (Int.toNat (IntKind.wrap IntKind.i64 (j1 + 1))), (0, (j1, ())))), (IntKind.wrap IntKind.i64 (j1 + 1), (0, ()))), ())
                    else none
                  else none
                else none
              else bif bt s0 j1 == 58 then
                if 0 ≤ j1 then
                  if j1 ≤ IntKind.wrap IntKind.i64 (j1 + 1) then
                    if IntKind.wrap IntKind.i64 (j1 + 1) ≤ (↑(ByteArray.size s0) : Int) then
                      bif decide ((↑(ByteArray.size (ByteArray.extract s0 (Int.toNat j1) (Int.toNat (IntKind.wrap IntKind.i64 (j1 + 1))))) : Int) > 32) then
                        some (((5, (ByteArray.extract s0 (Int.toNat j1) (Int.toNat (IntKind.wrap IntKind.i64 (j1 + 1))), (0, (j1, ())))), (0, (71, ()))), ())
                      else some (((5, (ByteArray.extract s0 (Int.toNat j1) (Int.toNat (IntKind.wrap IntKind.i64 (j1 + 1))), (0, (j1, ())))), (IntKind.wrap IntKind.i64 (j1 + 1), (0, ()))), ())
                    else none
                  else none
                else none
              else some (((0, (ByteArray.mk #[], (0, (j1, ())))), (0, (70, ()))), ())
            else none
          else none
        else bif bt s0 j1 == 40 then
          if 0 ≤ j1 then
            if j1 ≤ IntKind.wrap IntKind.i64 (j1 + 1) then
              if IntKind.wrap IntKind.i64 (j1 + 1) ≤ (↑(ByteArray.size s0) : Int) then
                bif decide ((↑(ByteArray.size (ByteArray.extract s0 (Int.toNat j1) (Int.toNat (IntKind.wrap IntKind.i64 (j1 + 1))))) : Int) > 32) then
                  some (((5, (ByteArray.extract s0 (Int.toNat j1) (Int.toNat (IntKind.wrap IntKind.i64 (j1 + 1))), (0, (j1, ())))), (0, (71, ()))), ())
                else some (((5, (ByteArray.extract s0 (Int.toNat j1) (Int.toNat (IntKind.wrap IntKind.i64 (j1 + 1))), (0, (j1, ())))), (IntKind.wrap IntKind.i64 (j1 + 1), (0, ()))), ())
              else none
            else none
          else none
        else bif bt s0 j1 == 41 then
          if 0 ≤ j1 then
            if j1 ≤ IntKind.wrap IntKind.i64 (j1 + 1) then
              if IntKind.wrap IntKind.i64 (j1 + 1) ≤ (↑(ByteArray.size s0) : Int) then
                bif decide ((↑(ByteArray.size (ByteArray.extract s0 (Int.toNat j1) (Int.toNat (IntKind.wrap IntKind.i64 (j1 + 1))))) : Int) > 32) then
                  some (((5, (ByteArray.extract s0 (Int.toNat j1) (Int.toNat (IntKind.wrap IntKind.i64 (j1 + 1))), (0, (j1, ())))), (0, (71, ()))), ())
                else some (((5, (ByteArray.extract s0 (Int.toNat j1) (Int.toNat (IntKind.wrap IntKind.i64 (j1 + 1))), (0, (j1, ())))), (IntKind.wrap IntKind.i64 (j1 + 1), (0, ()))), ())
              else none
            else none
          else none
        else bif bt s0 j1 == 44 then
          if 0 ≤ j1 then
            if j1 ≤ IntKind.wrap IntKind.i64 (j1 + 1) then
              if IntKind.wrap IntKind.i64 (j1 + 1) ≤ (↑(ByteArray.size s0) : Int) then
                bif decide ((↑(ByteArray.size (ByteArray.extract s0 (Int.toNat j1) (Int.toNat (IntKind.wrap IntKind.i64 (j1 + 1))))) : Int) > 32) then
                  some (((5, (ByteArray.extract s0 (Int.toNat j1) (Int.toNat (IntKind.wrap IntKind.i64 (j1 + 1))), (0, (j1, ())))), (0, (71, ()))), ())
                else some (((5, (ByteArray.extract s0 (Int.toNat j1) (Int.toNat (IntKind.wrap IntKind.i64 (j1 + 1))), (0, (j1, ())))), (IntKind.wrap IntKind.i64 (j1 + 1), (0, ()))), ())
              else none
            else none
          else none
        else bif bt s0 j1 == 46 then
          if 0 ≤ j1 then
            if j1 ≤ IntKind.wrap IntKind.i64 (j1 + 1) then
              if IntKind.wrap IntKind.i64 (j1 + 1) ≤ (↑(ByteArray.size s0) : Int) then
                bif decide ((↑(ByteArray.size (ByteArray.extract s0 (Int.toNat j1) (Int.toNat (IntKind.wrap IntKind.i64 (j1 + 1))))) : Int) > 32) then
                  some (((5, (ByteArray.extract s0 (Int.toNat j1) (Int.toNat (IntKind.wrap IntKind.i64 (j1 + 1))), (0, (j1, ())))), (0, (71, ()))), ())
                else some (((5, (ByteArray.extract s0 (Int.toNat j1) (Int.toNat (IntKind.wrap IntKind.i64 (j1 + 1))), (0, (j1, ())))), (IntKind.wrap IntKind.i64 (j1 + 1), (0, ()))), ())
              else none
            else none
          else none
        else bif bt s0 j1 == 58 then
          if 0 ≤ j1 then
            if j1 ≤ IntKind.wrap IntKind.i64 (j1 + 1) then
              if IntKind.wrap IntKind.i64 (j1 + 1) ≤ (↑(ByteArray.size s0) : Int) then
                bif decide ((↑(ByteArray.size (ByteArray.extract s0 (Int.toNat j1) (Int.toNat (IntKind.wrap IntKind.i64 (j1 + 1))))) : Int) > 32) then
                  some (((5, (ByteArray.extract s0 (Int.toNat j1) (Int.toNat (IntKind.wrap IntKind.i64 (j1 + 1))), (0, (j1, ())))), (0, (71, ()))), ())
                else some (((5, (ByteArray.extract s0 (Int.toNat j1) (Int.toNat (IntKind.wrap IntKind.i64 (j1 + 1))), (0, (j1, ())))), (IntKind.wrap IntKind.i64 (j1 + 1), (0, ()))), ())
              else none
            else none
          else none
        else some (((0, (ByteArray.mk #[], (0, (j1, ())))), (0, (70, ()))), ())
      else bif bt s0 j1 == 40 then
        if 0 ≤ j1 then
          if j1 ≤ IntKind.wrap IntKind.i64 (j1 + 1) then
            if IntKind.wrap IntKind.i64 (j1 + 1) ≤ (↑(ByteArray.size s0) : Int) then
              bif decide ((↑(ByteArray.size (ByteArray.extract s0 (Int.toNat j1) (Int.toNat (IntKind.wrap IntKind.i64 (j1 + 1))))) : Int) > 32) then
                some (((5, (ByteArray.extract s0 (Int.toNat j1) (Int.toNat (IntKind.wrap IntKind.i64 (j1 + 1))), (0, (j1, ())))), (0, (71, ()))), ())
              else some (((5, (ByteArray.extract s0 (Int.toNat j1) (Int.toNat (IntKind.wrap IntKind.i64 (j1 + 1))), (0, (j1, ())))), (IntKind.wrap IntKind.i64 (j1 + 1), (0, ()))), ())
            else none
          else none
        else none
      else bif bt s0 j1 == 41 then
        if 0 ≤ j1 then
          if j1 ≤ IntKind.wrap IntKind.i64 (j1 + 1) then
            if IntKind.wrap IntKind.i64 (j1 + 1) ≤ (↑(ByteArray.size s0) : Int) then
              bif decide ((↑(ByteArray.size (ByteArray.extract s0 (Int.toNat j1) (Int.toNat (IntKind.wrap IntKind.i64 (j1 + 1))))) : Int) > 32) then
                some (((5, (ByteArray.extract s0 (Int.toNat j1) (Int.toNat (IntKind.wrap IntKind.i64 (j1 + 1))), (0, (j1, ())))), (0, (71, ()))), ())
              else some (((5, (ByteArray.extract s0 (Int.toNat j1) (Int.toNat (IntKind.wrap IntKind.i64 (j1 + 1))), (0, (j1, ())))), (IntKind.wrap IntKind.i64 (j1 + 1), (0, ()))), ())
            else none
          else none
        else none
      else bif bt s0 j1 == 44 then
        if 0 ≤ j1 then
          if j1 ≤ IntKind.wrap IntKind.i64 (j1 + 1) then
            if IntKind.wrap IntKind.i64 (j1 + 1) ≤ (↑(ByteArray.size s0) : Int) then
              bif decide ((↑(ByteArray.size (ByteArray.extract s0 (Int.toNat j1) (Int.toNat (IntKind.wrap IntKind.i64 (j1 + 1))))) : Int) > 32) then
                some (((5, (ByteArray.extract s0 (Int.toNat j1) (Int.toNat (IntKind.wrap IntKind.i64 (j1 + 1))), (0, (j1, ())))), (0, (71, ()))), ())
              else some (((5, (ByteArray.extract s0 (Int.toNat j1) (Int.toNat (IntKind.wrap IntKind.i64 (j1 + 1))), (0, (j1, ())))), (IntKind.wrap IntKind.i64 (j1 + 1), (0, ()))), ())
            else none
          else none
        else none
      else bif bt s0 j1 == 46 then
        if 0 ≤ j1 then
          if j1 ≤ IntKind.wrap IntKind.i64 (j1 + 1) then
            if IntKind.wrap IntKind.i64 (j1 + 1) ≤ (↑(ByteArray.size s0) : Int) then
              bif decide ((↑(ByteArray.size (ByteArray.extract s0 (Int.toNat j1) (Int.toNat (IntKind.wrap IntKind.i64 (j1 + 1))))) : Int) > 32) then
                some (((5, (ByteArray.extract s0 (Int.toNat j1) (Int.toNat (IntKind.wrap IntKind.i64 (j1 + 1))), (0, (j1, ())))), (0, (71, ()))), ())
              else some (((5, (ByteArray.extract s0 (Int.toNat j1) (Int.toNat (IntKind.wrap IntKind.i64 (j1 + 1))), (0, (j1, ())))), (IntKind.wrap IntKind.i64 (j1 + 1), (0, ()))), ())
            else none
          else none
        else none
      else bif bt s0 j1 == 58 then
        if 0 ≤ j1 then
          if j1 ≤ IntKind.wrap IntKind.i64 (j1 + 1) then
            if IntKind.wrap IntKind.i64 (j1 + 1) ≤ (↑(ByteArray.size s0) : Int) then
              bif decide ((↑(ByteArray.size (ByteArray.extract s0 (Int.toNat j1) (Int.toNat (IntKind.wrap IntKind.i64 (j1 + 1))))) : Int) > 32) then
                some (((5, (ByteArray.extract s0 (Int.toNat j1) (Int.toNat (IntKind.wrap IntKind.i64 (j1 + 1))), (0, (j1, ())))), (0, (71, ()))), ())
              else some (((5, (ByteArray.extract s0 (Int.toNat j1) (Int.toNat (IntKind.wrap IntKind.i64 (j1 + 1))), (0, (j1, ())))), (IntKind.wrap IntKind.i64 (j1 + 1), (0, ()))), ())
            else none
          else none
        else none
      else some (((0, (ByteArray.mk #[], (0, (j1, ())))), (0, (70, ()))), ())
    else none
  else none := by kernel_rfl
theorem lex_one_c (n : Nat) (s0 : ByteArray) (j1 : Int) (y : ((Int × ByteArray × Int × Int × Unit) × Int × Int × Unit) × Unit) (h : lex_one_v n s0 j1 = some y) : Contract Tryd.prog 70 [AV.dv (DV.val (Value.string s0)), AV.dv (DV.val (Value.int IntKind.i64 j1))] [] (OSh.enc (OSh.plain (.tup [.agg [.i IntKind.i64, .s, .i IntKind.i64, .i IntKind.i64], .i IntKind.i64, .i IntKind.i64]) []) y) :=
  ac (OSh.plain (.tup [.agg [.i IntKind.i64, .s, .i IntKind.i64, .i IntKind.i64], .i IntKind.i64, .i IntKind.i64]) []) (lex_one_σok n) Tryd.func70 (by decide) h
def lex_Tokens_lv : Live := [(4, [0, 2, 3], [1000, 1001, 1002, 1003])]
noncomputable def lex_Tokens_σ (n : Nat) : Spec := (inst 69 [.s, .i IntKind.i64] [] (OSh.plain (.i IntKind.i64) []) (fun x e => lex_skip_v n x.1 x.2.1) (inst 70 [.s, .i IntKind.i64] [] (OSh.plain (.tup [.agg [.i IntKind.i64, .s, .i IntKind.i64, .i IntKind.i64], .i IntKind.i64, .i IntKind.i64]) []) (fun x e => lex_one_v n x.1 x.2.1) Spec.none))
theorem lex_Tokens_σok (n : Nat) : SpecOk Tryd.prog (lex_Tokens_σ n) := (inst_ok (fun x e y h => lex_skip_c n x.1 x.2.1 y h) (inst_ok (fun x e y h => lex_one_c n x.1 x.2.1 y h) (SpecOk.none _)))
noncomputable def lex_Tokens_Φ (n : Nat) : Orc := with_ Tryd.prog (lex_Tokens_σ n) [] n 0 hsL
noncomputable def lex_Tokens_v (n : Nat) (s0 : ByteArray) : Option (((Bool × Rows) × Int × Int × Unit) × Unit) :=
  DM.denFn tm (lex_Tokens_Φ n) lex_Tokens_lv n Tryd.f50 false [AV.dv (DV.val (Value.string s0))] [] (OSh.chk (OSh.plain (.tup [.sl kdK, .i IntKind.i64, .i IntKind.i64]) []))
noncomputable def lex_Tokens_l4 (n : Nat) (s0 : ByteArray) (i0 : Nat) (j2 : Int) (b5 : Bool) (r6 : List (List DV)) : Option (((Bool × Rows) × Int × Int × Unit) × Unit) :=
  DM.loopFn tm (lex_Tokens_Φ n) lex_Tokens_lv n Tryd.f50 false [] (OSh.chk (OSh.plain (.tup [.sl kdK, .i IntKind.i64, .i IntKind.i64]) [])) 4 [] i0 (St.mk [AV.dv (DV.val (Value.string s0)), Jk, AV.sl b5 kdK r6 (Right.tok 2), AV.dv (DV.val (Value.int IntKind.i64 j2)), Jk, Jk, Jk, Jk, Jk, Jk, Jk, Jk, Jk, Jk, Jk, Jk, Jk, Jk, Jk, Jk, Jk, Jk, Jk, Jk, Jk, Jk, Jk, Jk, Jk, Jk, Jk, Jk, Jk, Jk, Jk, Jk] [])
theorem lex_Tokens_s4 (n : Nat) (s0 : ByteArray) (i0 : Nat) (j2 : Int) (b5 : Bool) (r6 : List (List DV)) : lex_Tokens_l4 n s0 (i0 + 1) j2 b5 r6 =
  bif decide (j2 < (↑(ByteArray.size s0) : Int)) then
    obind (lex_one_v n s0 j2) fun y7 =>
    bif y7.fst.snd.snd.fst != 0 then
      some (((true, []), (j2, (y7.fst.snd.snd.fst, ()))), ())
    else if (List.length r6 + List.length [[DV.val (Value.int IntKind.i64 y7.fst.fst.fst), DV.val (Value.string y7.fst.fst.snd.fst), DV.val (Value.int IntKind.i64 y7.fst.fst.snd.snd.fst), DV.val (Value.int IntKind.i64 y7.fst.fst.snd.snd.snd.fst)]]) * 40 ≤ 140737488355328 then
      obind (lex_skip_v n s0 y7.fst.snd.fst) fun y8 =>
      lex_Tokens_l4 n s0 i0 y8.fst (b5 && List.isEmpty [[DV.val (Value.int IntKind.i64 y7.fst.fst.fst), DV.val (Value.string y7.fst.fst.snd.fst), DV.val (Value.int IntKind.i64 y7.fst.fst.snd.snd.fst), DV.val (Value.int IntKind.i64 y7.fst.fst.snd.snd.snd.fst)]]) (appX r6 [[DV.val (Value.int IntKind.i64 y7.fst.fst.fst), DV.val (Value.string y7.fst.fst.snd.fst), DV.val (Value.int IntKind.i64 y7.fst.fst.snd.snd.fst), DV.val (Value.int IntKind.i64 y7.fst.fst.snd.snd.snd.fst)]])
    else none
  else some (((b5, r6), (0, (0, ()))), ()) := by kernel_rfl
theorem lex_Tokens_e (n : Nat) (s0 : ByteArray) : lex_Tokens_v n s0 =
  bif decide ((↑(ByteArray.size s0) : Int) > 4096) then
    some (((true, []), (0, (3, ()))), ())
  else obind (lex_skip_v n s0 0) fun y1 =>
  lex_Tokens_l4 n s0 n y1.fst true [] := by kernel_rfl
theorem lex_Tokens_c (n : Nat) (s0 : ByteArray) (y : ((Bool × Rows) × Int × Int × Unit) × Unit) (h : lex_Tokens_v n s0 = some y) : Contract Tryd.prog 50 [AV.dv (DV.val (Value.string s0))] [] (OSh.enc (OSh.plain (.tup [.sl kdK, .i IntKind.i64, .i IntKind.i64]) []) y) :=
  ac (OSh.plain (.tup [.sl kdK, .i IntKind.i64, .i IntKind.i64]) []) (lex_Tokens_σok n) Tryd.func50 (by decide) h
def parse_parser_next_lv : Live := []
noncomputable def parse_parser_next_σ (n : Nat) : Spec := Spec.none
theorem parse_parser_next_σok (n : Nat) : SpecOk Tryd.prog (parse_parser_next_σ n) := (SpecOk.none _)
noncomputable def parse_parser_next_Φ (n : Nat) : Orc := with_ Tryd.prog (parse_parser_next_σ n) [] n 0 hsL
noncomputable def parse_parser_next_v (n : Nat) (b0 : Bool) (r1 : Rows) (j2 : Int) : Option ((Int × ByteArray × Int × Int × Unit) × ((Bool × Rows) × Int × Unit) × Unit) :=
  DM.denFn tm (parse_parser_next_Φ n) parse_parser_next_lv n Tryd.f71 false [AV.pl 1000 0] [[AV.sl b0 kdK r1 Right.no, AV.dv (DV.val (Value.int IntKind.i64 j2))]] (OSh.chk (OSh.plain (.agg [.i IntKind.i64, .s, .i IntKind.i64, .i IntKind.i64]) [[.sl kdK, .i IntKind.i64]]))
theorem parse_parser_next_e (n : Nat) (b0 : Bool) (r1 : Rows) (j2 : Int) : parse_parser_next_v n b0 r1 j2 =
  bif (↑(List.length r1) : Int) == 0 then
    some ((0, (ByteArray.mk #[], (0, (j2, ())))), (((b0, r1), (j2, ())), ()))
  else if 0 < (↑(List.length r1) : Int) then
    some ((Row.I (List.getD r1 0 []) 0, (Row.S (List.getD r1 0 []) 1, (Row.I (List.getD r1 0 []) 2, (Row.I (List.getD r1 0 []) 3, ())))), (((b0, r1), (j2, ())), ()))
  else none := by kernel_rfl
theorem parse_parser_next_c (n : Nat) (b0 : Bool) (r1 : Rows) (j2 : Int) (y : (Int × ByteArray × Int × Int × Unit) × ((Bool × Rows) × Int × Unit) × Unit) (h : parse_parser_next_v n b0 r1 j2 = some y) : Contract Tryd.prog 71 [AV.pl 1000 0] [[AV.sl b0 kdK r1 Right.no, AV.dv (DV.val (Value.int IntKind.i64 j2))]] (OSh.enc (OSh.plain (.agg [.i IntKind.i64, .s, .i IntKind.i64, .i IntKind.i64]) [[.sl kdK, .i IntKind.i64]]) y) :=
  ac (OSh.plain (.agg [.i IntKind.i64, .s, .i IntKind.i64, .i IntKind.i64]) [[.sl kdK, .i IntKind.i64]]) (parse_parser_next_σok n) Tryd.func71 (by decide) h
def parse_kept_lv : Live := []
noncomputable def parse_kept_σ (n : Nat) : Spec := Spec.none
theorem parse_kept_σok (n : Nat) : SpecOk Tryd.prog (parse_kept_σ n) := (SpecOk.none _)
noncomputable def parse_kept_Φ (n : Nat) : Orc := with_ Tryd.prog (parse_kept_σ n) [] n 0 hsL
noncomputable def parse_kept_v (n : Nat) (s0 : ByteArray) : Option (Bool × Unit) :=
  DM.denFn tm (parse_kept_Φ n) parse_kept_lv n Tryd.f72 false [AV.dv (DV.val (Value.string s0))] [] (OSh.chk (OSh.plain (.b) []))
theorem parse_kept_e (n : Nat) (s0 : ByteArray) : parse_kept_v n s0 =
  bif s0 == ByteArray.mk #[115, 97, 121, 115] then
    some (true, ())
  else bif s0 == ByteArray.mk #[116, 111] then
    some (true, ())
  else some (s0 == ByteArray.mk #[97, 116], ()) := by kernel_rfl
theorem parse_kept_c (n : Nat) (s0 : ByteArray) (y : Bool × Unit) (h : parse_kept_v n s0 = some y) : Contract Tryd.prog 72 [AV.dv (DV.val (Value.string s0))] [] (OSh.enc (OSh.plain (.b) []) y) :=
  ac (OSh.plain (.b) []) (parse_kept_σok n) Tryd.func72 (by decide) h
def parse_parser_begins_lv : Live := []
noncomputable def parse_parser_begins_σ (n : Nat) : Spec := (inst 71 [.pl 1000 0] [[.sl kdK, .i IntKind.i64]] (OSh.plain (.agg [.i IntKind.i64, .s, .i IntKind.i64, .i IntKind.i64]) [[.sl kdK, .i IntKind.i64]]) (fun x e => parse_parser_next_v n e.1.1.1 e.1.1.2 e.1.2.1) (inst 72 [.s] [] (OSh.plain (.b) []) (fun x e => parse_kept_v n x.1) Spec.none))
theorem parse_parser_begins_σok (n : Nat) : SpecOk Tryd.prog (parse_parser_begins_σ n) := (inst_ok (fun x e y h => parse_parser_next_c n e.1.1.1 e.1.1.2 e.1.2.1 y h) (inst_ok (fun x e y h => parse_kept_c n x.1 y h) (SpecOk.none _)))
noncomputable def parse_parser_begins_Φ (n : Nat) : Orc := with_ Tryd.prog (parse_parser_begins_σ n) [] n 0 hsL
noncomputable def parse_parser_begins_v (n : Nat) (b0 : Bool) (r1 : Rows) (j2 : Int) : Option (Bool × ((Bool × Rows) × Int × Unit) × Unit) :=
  DM.denFn tm (parse_parser_begins_Φ n) parse_parser_begins_lv n Tryd.f52 false [AV.pl 1000 0] [[AV.sl b0 kdK r1 Right.no, AV.dv (DV.val (Value.int IntKind.i64 j2))]] (OSh.chk (OSh.plain (.b) [[.sl kdK, .i IntKind.i64]]))
theorem parse_parser_begins_e (n : Nat) (b0 : Bool) (r1 : Rows) (j2 : Int) : parse_parser_begins_v n b0 r1 j2 =
  obind (parse_parser_next_v n b0 r1 j2) fun y3 =>
  bif y3.fst.fst == 2 then
    some (true, (((y3.snd.fst.fst.fst, y3.snd.fst.fst.snd), (y3.snd.fst.snd.fst, ())), ()))
  else bif y3.fst.fst == 3 then
    some (true, (((y3.snd.fst.fst.fst, y3.snd.fst.fst.snd), (y3.snd.fst.snd.fst, ())), ()))
  else bif y3.fst.fst == 1 then
    obind (parse_kept_v n y3.fst.snd.fst) fun y4 =>
    bif !y4.fst then
      some (true, (((y3.snd.fst.fst.fst, y3.snd.fst.fst.snd), (y3.snd.fst.snd.fst, ())), ()))
    else bif y3.fst.fst == 4 then
      some (!y3.fst.snd.fst == ByteArray.mk #[], (((y3.snd.fst.fst.fst, y3.snd.fst.fst.snd), (y3.snd.fst.snd.fst, ())), ()))
    else some (false, (((y3.snd.fst.fst.fst, y3.snd.fst.fst.snd), (y3.snd.fst.snd.fst, ())), ()))
  else bif y3.fst.fst == 4 then
    some (!y3.fst.snd.fst == ByteArray.mk #[], (((y3.snd.fst.fst.fst, y3.snd.fst.fst.snd), (y3.snd.fst.snd.fst, ())), ()))
  else some (false, (((y3.snd.fst.fst.fst, y3.snd.fst.fst.snd), (y3.snd.fst.snd.fst, ())), ())) := by kernel_rfl
theorem parse_parser_begins_c (n : Nat) (b0 : Bool) (r1 : Rows) (j2 : Int) (y : Bool × ((Bool × Rows) × Int × Unit) × Unit) (h : parse_parser_begins_v n b0 r1 j2 = some y) : Contract Tryd.prog 52 [AV.pl 1000 0] [[AV.sl b0 kdK r1 Right.no, AV.dv (DV.val (Value.int IntKind.i64 j2))]] (OSh.enc (OSh.plain (.b) [[.sl kdK, .i IntKind.i64]]) y) :=
  ac (OSh.plain (.b) [[.sl kdK, .i IntKind.i64]]) (parse_parser_begins_σok n) Tryd.func52 (by decide) h
def parse_parser_fail_lv : Live := []
noncomputable def parse_parser_fail_σ (n : Nat) : Spec := (inst 71 [.pl 1000 0] [[.sl kdK, .i IntKind.i64]] (OSh.plain (.agg [.i IntKind.i64, .s, .i IntKind.i64, .i IntKind.i64]) [[.sl kdK, .i IntKind.i64]]) (fun x e => parse_parser_next_v n e.1.1.1 e.1.1.2 e.1.2.1) Spec.none)
theorem parse_parser_fail_σok (n : Nat) : SpecOk Tryd.prog (parse_parser_fail_σ n) := (inst_ok (fun x e y h => parse_parser_next_c n e.1.1.1 e.1.1.2 e.1.2.1 y h) (SpecOk.none _))
noncomputable def parse_parser_fail_Φ (n : Nat) : Orc := with_ Tryd.prog (parse_parser_fail_σ n) [] n 0 hsL
noncomputable def parse_parser_fail_v (n : Nat) (j0 : Int) (b1 : Bool) (r2 : Rows) (j3 : Int) : Option (Bool × Unit × (Int × Int × Unit) × ((Bool × Rows) × Int × Unit) × Unit) :=
  DM.denFn tm (parse_parser_fail_Φ n) parse_parser_fail_lv n Tryd.f53 false [AV.pl 1000 0, AV.dv (DV.val (Value.int IntKind.i64 j0))] [[AV.sl b1 kdK r2 Right.no, AV.dv (DV.val (Value.int IntKind.i64 j3))]] (OSh.chk (OSh.pan (.junk) (.ifc 93 (.agg [.i IntKind.i64, .i IntKind.i64])) [[.sl kdK, .i IntKind.i64]]))
theorem parse_parser_fail_e (n : Nat) (j0 : Int) (b1 : Bool) (r2 : Rows) (j3 : Int) : parse_parser_fail_v n j0 b1 r2 j3 =
  obind (parse_parser_next_v n b1 r2 j3) fun y4 =>
  some (true, Sh.dflt (.junk), (y4.fst.snd.snd.snd.fst, (j0, ())), (((y4.snd.fst.fst.fst, y4.snd.fst.fst.snd), (y4.snd.fst.snd.fst, ())), ())) := by kernel_rfl
theorem parse_parser_fail_c (n : Nat) (j0 : Int) (b1 : Bool) (r2 : Rows) (j3 : Int) (y : Bool × Unit × (Int × Int × Unit) × ((Bool × Rows) × Int × Unit) × Unit) (h : parse_parser_fail_v n j0 b1 r2 j3 = some y) : Contract Tryd.prog 53 [AV.pl 1000 0, AV.dv (DV.val (Value.int IntKind.i64 j0))] [[AV.sl b1 kdK r2 Right.no, AV.dv (DV.val (Value.int IntKind.i64 j3))]] (OSh.enc (OSh.pan (.junk) (.ifc 93 (.agg [.i IntKind.i64, .i IntKind.i64])) [[.sl kdK, .i IntKind.i64]]) y) :=
  ac (OSh.pan (.junk) (.ifc 93 (.agg [.i IntKind.i64, .i IntKind.i64])) [[.sl kdK, .i IntKind.i64]]) (parse_parser_fail_σok n) Tryd.func53 (by decide) h
def parse_parser_term_lv : Live := []
noncomputable def parse_parser_term_σ (n : Nat) : Spec := (inst 52 [.pl 1000 0] [[.sl kdK, .i IntKind.i64]] (OSh.plain (.b) [[.sl kdK, .i IntKind.i64]]) (fun x e => parse_parser_begins_v n e.1.1.1 e.1.1.2 e.1.2.1) (inst 53 [.pl 1000 0, .i IntKind.i64] [[.sl kdK, .i IntKind.i64]] (OSh.pan (.junk) (.ifc 93 (.agg [.i IntKind.i64, .i IntKind.i64])) [[.sl kdK, .i IntKind.i64]]) (fun x e => parse_parser_fail_v n x.2.1 e.1.1.1 e.1.1.2 e.1.2.1) (inst 71 [.pl 1000 0] [[.sl kdK, .i IntKind.i64]] (OSh.plain (.agg [.i IntKind.i64, .s, .i IntKind.i64, .i IntKind.i64]) [[.sl kdK, .i IntKind.i64]]) (fun x e => parse_parser_next_v n e.1.1.1 e.1.1.2 e.1.2.1) Spec.none)))
theorem parse_parser_term_σok (n : Nat) : SpecOk Tryd.prog (parse_parser_term_σ n) := (inst_ok (fun x e y h => parse_parser_begins_c n e.1.1.1 e.1.1.2 e.1.2.1 y h) (inst_ok (fun x e y h => parse_parser_fail_c n x.2.1 e.1.1.1 e.1.1.2 e.1.2.1 y h) (inst_ok (fun x e y h => parse_parser_next_c n e.1.1.1 e.1.1.2 e.1.2.1 y h) (SpecOk.none _))))
noncomputable def parse_parser_term_Φ (n : Nat) : Orc := with_ Tryd.prog (parse_parser_term_σ n) [] n 0 hsL
noncomputable def parse_parser_term_v (n : Nat) (b0 : Bool) (r1 : Rows) (j2 : Int) : Option (Bool × (ByteArray × Bool × Int × ByteArray × Unit) × (Int × Int × Unit) × ((Bool × Rows) × Int × Unit) × Unit) :=
  DM.denFn tm (parse_parser_term_Φ n) parse_parser_term_lv n Tryd.f73 false [AV.pl 1000 0] [[AV.sl b0 kdK r1 Right.no, AV.dv (DV.val (Value.int IntKind.i64 j2))]] (OSh.chk (OSh.pan (.agg [.s, .b, .i IntKind.i64, .s]) (.ifc 93 (.agg [.i IntKind.i64, .i IntKind.i64])) [[.sl kdK, .i IntKind.i64]]))
theorem parse_parser_term_e (n : Nat) (b0 : Bool) (r1 : Rows) (j2 : Int) : parse_parser_term_v n b0 r1 j2 =
  obind (parse_parser_begins_v n b0 r1 j2) fun y3 =>
  bif !y3.fst then
    obind (parse_parser_fail_v n 80 y3.snd.fst.fst.fst y3.snd.fst.fst.snd y3.snd.fst.snd.fst) fun y4 =>
    bif y4.fst then
      some (true, Sh.dflt (.agg [.s, .b, .i IntKind.i64, .s]), (y4.snd.snd.fst.fst, (y4.snd.snd.fst.snd.fst, ())), (((y4.snd.snd.snd.fst.fst.fst, y4.snd.snd.snd.fst.fst.snd), (y4.snd.snd.snd.fst.snd.fst, ())), ()))
    else obind (parse_parser_next_v n y4.snd.snd.snd.fst.fst.fst y4.snd.snd.snd.fst.fst.snd y4.snd.snd.snd.fst.snd.fst) fun y5 =>
    if 1 ≤ (↑(List.length y5.snd.fst.fst.snd) : Int) then
      if (↑(List.length y5.snd.fst.fst.snd) : Int) ≤ (↑(List.length y5.snd.fst.fst.snd) : Int) then
        bif y5.fst.fst == 2 then
          some (false, (y5.fst.snd.fst, (false, (0, (ByteArray.mk #[], ())))), Sh.dflt (.ifc 93 (.agg [.i IntKind.i64, .i IntKind.i64])), (((y5.snd.fst.fst.fst, List.drop 1 (List.take (Int.toNat (↑(List.length y5.snd.fst.fst.snd) : Int)) y5.snd.fst.fst.snd)), (y5.snd.fst.snd.fst, ())), ()))
        else bif y5.fst.fst == 3 then
          some (false, (ByteArray.mk #[], (true, (y5.fst.snd.snd.fst, (ByteArray.mk #[], ())))), Sh.dflt (.ifc 93 (.agg [.i IntKind.i64, .i IntKind.i64])), (((y5.snd.fst.fst.fst, List.drop 1 (List.take (Int.toNat (↑(List.length y5.snd.fst.fst.snd) : Int)) y5.snd.fst.fst.snd)), (y5.snd.fst.snd.fst, ())), ()))
        else some (false, (ByteArray.mk #[], (false, (0, (y5.fst.snd.fst, ())))), Sh.dflt (.ifc 93 (.agg [.i IntKind.i64, .i IntKind.i64])), (((y5.snd.fst.fst.fst, List.drop 1 (List.take (Int.toNat (↑(List.length y5.snd.fst.fst.snd) : Int)) y5.snd.fst.fst.snd)), (y5.snd.fst.snd.fst, ())), ()))
      else none
    else none
  else obind (parse_parser_next_v n y3.snd.fst.fst.fst y3.snd.fst.fst.snd y3.snd.fst.snd.fst) fun y6 =>
  if 1 ≤ (↑(List.length y6.snd.fst.fst.snd) : Int) then
    if (↑(List.length y6.snd.fst.fst.snd) : Int) ≤ (↑(List.length y6.snd.fst.fst.snd) : Int) then
      bif y6.fst.fst == 2 then
        some (false, (y6.fst.snd.fst, (false, (0, (ByteArray.mk #[], ())))), Sh.dflt (.ifc 93 (.agg [.i IntKind.i64, .i IntKind.i64])), (((y6.snd.fst.fst.fst, List.drop 1 (List.take (Int.toNat (↑(List.length y6.snd.fst.fst.snd) : Int)) y6.snd.fst.fst.snd)), (y6.snd.fst.snd.fst, ())), ()))
      else bif y6.fst.fst == 3 then
        some (false, (ByteArray.mk #[], (true, (y6.fst.snd.snd.fst, (ByteArray.mk #[], ())))), Sh.dflt (.ifc 93 (.agg [.i IntKind.i64, .i IntKind.i64])), (((y6.snd.fst.fst.fst, List.drop 1 (List.take (Int.toNat (↑(List.length y6.snd.fst.fst.snd) : Int)) y6.snd.fst.fst.snd)), (y6.snd.fst.snd.fst, ())), ()))
      else some (false, (ByteArray.mk #[], (false, (0, (y6.fst.snd.fst, ())))), Sh.dflt (.ifc 93 (.agg [.i IntKind.i64, .i IntKind.i64])), (((y6.snd.fst.fst.fst, List.drop 1 (List.take (Int.toNat (↑(List.length y6.snd.fst.fst.snd) : Int)) y6.snd.fst.fst.snd)), (y6.snd.fst.snd.fst, ())), ()))
    else none
  else none := by kernel_rfl
theorem parse_parser_term_c (n : Nat) (b0 : Bool) (r1 : Rows) (j2 : Int) (y : Bool × (ByteArray × Bool × Int × ByteArray × Unit) × (Int × Int × Unit) × ((Bool × Rows) × Int × Unit) × Unit) (h : parse_parser_term_v n b0 r1 j2 = some y) : Contract Tryd.prog 73 [AV.pl 1000 0] [[AV.sl b0 kdK r1 Right.no, AV.dv (DV.val (Value.int IntKind.i64 j2))]] (OSh.enc (OSh.pan (.agg [.s, .b, .i IntKind.i64, .s]) (.ifc 93 (.agg [.i IntKind.i64, .i IntKind.i64])) [[.sl kdK, .i IntKind.i64]]) y) :=
  ac (OSh.pan (.agg [.s, .b, .i IntKind.i64, .s]) (.ifc 93 (.agg [.i IntKind.i64, .i IntKind.i64])) [[.sl kdK, .i IntKind.i64]]) (parse_parser_term_σok n) Tryd.func73 (by decide) h
def parse_parser_is_lv : Live := []
noncomputable def parse_parser_is_σ (n : Nat) : Spec := (inst 71 [.pl 1000 0] [[.sl kdK, .i IntKind.i64]] (OSh.plain (.agg [.i IntKind.i64, .s, .i IntKind.i64, .i IntKind.i64]) [[.sl kdK, .i IntKind.i64]]) (fun x e => parse_parser_next_v n e.1.1.1 e.1.1.2 e.1.2.1) (inst 72 [.s] [] (OSh.plain (.b) []) (fun x e => parse_kept_v n x.1) Spec.none))
theorem parse_parser_is_σok (n : Nat) : SpecOk Tryd.prog (parse_parser_is_σ n) := (inst_ok (fun x e y h => parse_parser_next_c n e.1.1.1 e.1.1.2 e.1.2.1 y h) (inst_ok (fun x e y h => parse_kept_c n x.1 y h) (SpecOk.none _)))
noncomputable def parse_parser_is_Φ (n : Nat) : Orc := with_ Tryd.prog (parse_parser_is_σ n) [] n 0 hsL
noncomputable def parse_parser_is_v (n : Nat) (s0 : ByteArray) (b1 : Bool) (r2 : Rows) (j3 : Int) : Option (Bool × ((Bool × Rows) × Int × Unit) × Unit) :=
  DM.denFn tm (parse_parser_is_Φ n) parse_parser_is_lv n Tryd.f100 false [AV.pl 1000 0, AV.dv (DV.val (Value.string s0))] [[AV.sl b1 kdK r2 Right.no, AV.dv (DV.val (Value.int IntKind.i64 j3))]] (OSh.chk (OSh.plain (.b) [[.sl kdK, .i IntKind.i64]]))
theorem parse_parser_is_e (n : Nat) (s0 : ByteArray) (b1 : Bool) (r2 : Rows) (j3 : Int) : parse_parser_is_v n s0 b1 r2 j3 =
  obind (parse_parser_next_v n b1 r2 j3) fun y4 =>
  bif y4.fst.snd.fst == s0 then
    bif y4.fst.fst == 5 then
      some (true, (((y4.snd.fst.fst.fst, y4.snd.fst.fst.snd), (y4.snd.fst.snd.fst, ())), ()))
    else bif y4.fst.fst == 1 then
      obind (parse_kept_v n s0) fun y5 =>
      some (y5.fst, (((y4.snd.fst.fst.fst, y4.snd.fst.fst.snd), (y4.snd.fst.snd.fst, ())), ()))
    else some (false, (((y4.snd.fst.fst.fst, y4.snd.fst.fst.snd), (y4.snd.fst.snd.fst, ())), ()))
  else some (false, (((y4.snd.fst.fst.fst, y4.snd.fst.fst.snd), (y4.snd.fst.snd.fst, ())), ())) := by kernel_rfl
theorem parse_parser_is_c (n : Nat) (s0 : ByteArray) (b1 : Bool) (r2 : Rows) (j3 : Int) (y : Bool × ((Bool × Rows) × Int × Unit) × Unit) (h : parse_parser_is_v n s0 b1 r2 j3 = some y) : Contract Tryd.prog 100 [AV.pl 1000 0, AV.dv (DV.val (Value.string s0))] [[AV.sl b1 kdK r2 Right.no, AV.dv (DV.val (Value.int IntKind.i64 j3))]] (OSh.enc (OSh.plain (.b) [[.sl kdK, .i IntKind.i64]]) y) :=
  ac (OSh.plain (.b) [[.sl kdK, .i IntKind.i64]]) (parse_parser_is_σok n) Tryd.func100 (by decide) h
def parse_parser_pass_lv : Live := []
noncomputable def parse_parser_pass_σ (n : Nat) : Spec := (inst 100 [.pl 1000 0, .s] [[.sl kdK, .i IntKind.i64]] (OSh.plain (.b) [[.sl kdK, .i IntKind.i64]]) (fun x e => parse_parser_is_v n x.2.1 e.1.1.1 e.1.1.2 e.1.2.1) Spec.none)
theorem parse_parser_pass_σok (n : Nat) : SpecOk Tryd.prog (parse_parser_pass_σ n) := (inst_ok (fun x e y h => parse_parser_is_c n x.2.1 e.1.1.1 e.1.1.2 e.1.2.1 y h) (SpecOk.none _))
noncomputable def parse_parser_pass_Φ (n : Nat) : Orc := with_ Tryd.prog (parse_parser_pass_σ n) [] n 0 hsL
noncomputable def parse_parser_pass_v (n : Nat) (s0 : ByteArray) (b1 : Bool) (r2 : Rows) (j3 : Int) : Option (Bool × ((Bool × Rows) × Int × Unit) × Unit) :=
  DM.denFn tm (parse_parser_pass_Φ n) parse_parser_pass_lv n Tryd.f77 false [AV.pl 1000 0, AV.dv (DV.val (Value.string s0))] [[AV.sl b1 kdK r2 Right.no, AV.dv (DV.val (Value.int IntKind.i64 j3))]] (OSh.chk (OSh.plain (.b) [[.sl kdK, .i IntKind.i64]]))
theorem parse_parser_pass_e (n : Nat) (s0 : ByteArray) (b1 : Bool) (r2 : Rows) (j3 : Int) : parse_parser_pass_v n s0 b1 r2 j3 =
  obind (parse_parser_is_v n s0 b1 r2 j3) fun y4 =>
  bif !y4.fst then
    some (false, (((y4.snd.fst.fst.fst, y4.snd.fst.fst.snd), (y4.snd.fst.snd.fst, ())), ()))
  else if 1 ≤ (↑(List.length y4.snd.fst.fst.snd) : Int) then
    if (↑(List.length y4.snd.fst.fst.snd) : Int) ≤ (↑(List.length y4.snd.fst.fst.snd) : Int) then
      some (true, (((y4.snd.fst.fst.fst, List.drop 1 (List.take (Int.toNat (↑(List.length y4.snd.fst.fst.snd) : Int)) y4.snd.fst.fst.snd)), (y4.snd.fst.snd.fst, ())), ()))
    else none
  else none := by kernel_rfl
theorem parse_parser_pass_c (n : Nat) (s0 : ByteArray) (b1 : Bool) (r2 : Rows) (j3 : Int) (y : Bool × ((Bool × Rows) × Int × Unit) × Unit) (h : parse_parser_pass_v n s0 b1 r2 j3 = some y) : Contract Tryd.prog 77 [AV.pl 1000 0, AV.dv (DV.val (Value.string s0))] [[AV.sl b1 kdK r2 Right.no, AV.dv (DV.val (Value.int IntKind.i64 j3))]] (OSh.enc (OSh.plain (.b) [[.sl kdK, .i IntKind.i64]]) y) :=
  ac (OSh.plain (.b) [[.sl kdK, .i IntKind.i64]]) (parse_parser_pass_σok n) Tryd.func77 (by decide) h
def parse_parser_must_lv : Live := []
noncomputable def parse_parser_must_σ (n : Nat) : Spec := (inst 77 [.pl 1000 0, .s] [[.sl kdK, .i IntKind.i64]] (OSh.plain (.b) [[.sl kdK, .i IntKind.i64]]) (fun x e => parse_parser_pass_v n x.2.1 e.1.1.1 e.1.1.2 e.1.2.1) (inst 53 [.pl 1000 0, .i IntKind.i64] [[.sl kdK, .i IntKind.i64]] (OSh.pan (.junk) (.ifc 93 (.agg [.i IntKind.i64, .i IntKind.i64])) [[.sl kdK, .i IntKind.i64]]) (fun x e => parse_parser_fail_v n x.2.1 e.1.1.1 e.1.1.2 e.1.2.1) Spec.none))
theorem parse_parser_must_σok (n : Nat) : SpecOk Tryd.prog (parse_parser_must_σ n) := (inst_ok (fun x e y h => parse_parser_pass_c n x.2.1 e.1.1.1 e.1.1.2 e.1.2.1 y h) (inst_ok (fun x e y h => parse_parser_fail_c n x.2.1 e.1.1.1 e.1.1.2 e.1.2.1 y h) (SpecOk.none _)))
noncomputable def parse_parser_must_Φ (n : Nat) : Orc := with_ Tryd.prog (parse_parser_must_σ n) [] n 0 hsL
noncomputable def parse_parser_must_v (n : Nat) (s0 : ByteArray) (b1 : Bool) (r2 : Rows) (j3 : Int) : Option (Bool × Unit × (Int × Int × Unit) × ((Bool × Rows) × Int × Unit) × Unit) :=
  DM.denFn tm (parse_parser_must_Φ n) parse_parser_must_lv n Tryd.f74 false [AV.pl 1000 0, AV.dv (DV.val (Value.string s0))] [[AV.sl b1 kdK r2 Right.no, AV.dv (DV.val (Value.int IntKind.i64 j3))]] (OSh.chk (OSh.pan (.tup []) (.ifc 93 (.agg [.i IntKind.i64, .i IntKind.i64])) [[.sl kdK, .i IntKind.i64]]))
theorem parse_parser_must_e (n : Nat) (s0 : ByteArray) (b1 : Bool) (r2 : Rows) (j3 : Int) : parse_parser_must_v n s0 b1 r2 j3 =
  obind (parse_parser_pass_v n s0 b1 r2 j3) fun y4 =>
  bif !y4.fst then
    obind (parse_parser_fail_v n 80 y4.snd.fst.fst.fst y4.snd.fst.fst.snd y4.snd.fst.snd.fst) fun y5 =>
    bif y5.fst then
      some (true, Sh.dflt (.tup []), (y5.snd.snd.fst.fst, (y5.snd.snd.fst.snd.fst, ())), (((y5.snd.snd.snd.fst.fst.fst, y5.snd.snd.snd.fst.fst.snd), (y5.snd.snd.snd.fst.snd.fst, ())), ()))
    else some (false, (), Sh.dflt (.ifc 93 (.agg [.i IntKind.i64, .i IntKind.i64])), (((y5.snd.snd.snd.fst.fst.fst, y5.snd.snd.snd.fst.fst.snd), (y5.snd.snd.snd.fst.snd.fst, ())), ()))
  else some (false, (), Sh.dflt (.ifc 93 (.agg [.i IntKind.i64, .i IntKind.i64])), (((y4.snd.fst.fst.fst, y4.snd.fst.fst.snd), (y4.snd.fst.snd.fst, ())), ())) := by kernel_rfl
theorem parse_parser_must_c (n : Nat) (s0 : ByteArray) (b1 : Bool) (r2 : Rows) (j3 : Int) (y : Bool × Unit × (Int × Int × Unit) × ((Bool × Rows) × Int × Unit) × Unit) (h : parse_parser_must_v n s0 b1 r2 j3 = some y) : Contract Tryd.prog 74 [AV.pl 1000 0, AV.dv (DV.val (Value.string s0))] [[AV.sl b1 kdK r2 Right.no, AV.dv (DV.val (Value.int IntKind.i64 j3))]] (OSh.enc (OSh.pan (.tup []) (.ifc 93 (.agg [.i IntKind.i64, .i IntKind.i64])) [[.sl kdK, .i IntKind.i64]]) y) :=
  ac (OSh.pan (.tup []) (.ifc 93 (.agg [.i IntKind.i64, .i IntKind.i64])) [[.sl kdK, .i IntKind.i64]]) (parse_parser_must_σok n) Tryd.func74 (by decide) h
def parse_parser_word_lv : Live := []
noncomputable def parse_parser_word_σ (n : Nat) : Spec := (inst 71 [.pl 1000 0] [[.sl kdK, .i IntKind.i64]] (OSh.plain (.agg [.i IntKind.i64, .s, .i IntKind.i64, .i IntKind.i64]) [[.sl kdK, .i IntKind.i64]]) (fun x e => parse_parser_next_v n e.1.1.1 e.1.1.2 e.1.2.1) (inst 53 [.pl 1000 0, .i IntKind.i64] [[.sl kdK, .i IntKind.i64]] (OSh.pan (.junk) (.ifc 93 (.agg [.i IntKind.i64, .i IntKind.i64])) [[.sl kdK, .i IntKind.i64]]) (fun x e => parse_parser_fail_v n x.2.1 e.1.1.1 e.1.1.2 e.1.2.1) (inst 72 [.s] [] (OSh.plain (.b) []) (fun x e => parse_kept_v n x.1) Spec.none)))
theorem parse_parser_word_σok (n : Nat) : SpecOk Tryd.prog (parse_parser_word_σ n) := (inst_ok (fun x e y h => parse_parser_next_c n e.1.1.1 e.1.1.2 e.1.2.1 y h) (inst_ok (fun x e y h => parse_parser_fail_c n x.2.1 e.1.1.1 e.1.1.2 e.1.2.1 y h) (inst_ok (fun x e y h => parse_kept_c n x.1 y h) (SpecOk.none _))))
noncomputable def parse_parser_word_Φ (n : Nat) : Orc := with_ Tryd.prog (parse_parser_word_σ n) [] n 0 hsL
noncomputable def parse_parser_word_v (n : Nat) (b0 : Bool) (r1 : Rows) (j2 : Int) : Option (Bool × ByteArray × (Int × Int × Unit) × ((Bool × Rows) × Int × Unit) × Unit) :=
  DM.denFn tm (parse_parser_word_Φ n) parse_parser_word_lv n Tryd.f75 false [AV.pl 1000 0] [[AV.sl b0 kdK r1 Right.no, AV.dv (DV.val (Value.int IntKind.i64 j2))]] (OSh.chk (OSh.pan (.s) (.ifc 93 (.agg [.i IntKind.i64, .i IntKind.i64])) [[.sl kdK, .i IntKind.i64]]))
theorem parse_parser_word_e (n : Nat) (b0 : Bool) (r1 : Rows) (j2 : Int) : parse_parser_word_v n b0 r1 j2 =
  obind (parse_parser_next_v n b0 r1 j2) fun y3 =>
  bif y3.fst.fst != 1 then
    obind (parse_parser_fail_v n 80 y3.snd.fst.fst.fst y3.snd.fst.fst.snd y3.snd.fst.snd.fst) fun y4 =>
    bif y4.fst then
      some (true, Sh.dflt (.s), (y4.snd.snd.fst.fst, (y4.snd.snd.fst.snd.fst, ())), (((y4.snd.snd.snd.fst.fst.fst, y4.snd.snd.snd.fst.fst.snd), (y4.snd.snd.snd.fst.snd.fst, ())), ()))
    else if 1 ≤ (↑(List.length y4.snd.snd.snd.fst.fst.snd) : Int) then
      if (↑(List.length y4.snd.snd.snd.fst.fst.snd) : Int) ≤ (↑(List.length y4.snd.snd.snd.fst.fst.snd) : Int) then
        some (false, y3.fst.snd.fst, Sh.dflt (.ifc 93 (.agg [.i IntKind.i64, .i IntKind.i64])), (((y4.snd.snd.snd.fst.fst.fst, List.drop 1 (List.take (Int.toNat (↑(List.length y4.snd.snd.snd.fst.fst.snd) : Int)) y4.snd.snd.snd.fst.fst.snd)), (y4.snd.snd.snd.fst.snd.fst, ())), ()))
      else none
    else none
  else obind (parse_kept_v n y3.fst.snd.fst) fun y5 =>
  bif y5.fst then
    obind (parse_parser_fail_v n 80 y3.snd.fst.fst.fst y3.snd.fst.fst.snd y3.snd.fst.snd.fst) fun y6 =>
    bif y6.fst then
      some (true, Sh.dflt (.s), (y6.snd.snd.fst.fst, (y6.snd.snd.fst.snd.fst, ())), (((y6.snd.snd.snd.fst.fst.fst, y6.snd.snd.snd.fst.fst.snd), (y6.snd.snd.snd.fst.snd.fst, ())), ()))
    else if 1 ≤ (↑(List.length y6.snd.snd.snd.fst.fst.snd) : Int) then
      if (↑(List.length y6.snd.snd.snd.fst.fst.snd) : Int) ≤ (↑(List.length y6.snd.snd.snd.fst.fst.snd) : Int) then
        some (false, y3.fst.snd.fst, Sh.dflt (.ifc 93 (.agg [.i IntKind.i64, .i IntKind.i64])), (((y6.snd.snd.snd.fst.fst.fst, List.drop 1 (List.take (Int.toNat (↑(List.length y6.snd.snd.snd.fst.fst.snd) : Int)) y6.snd.snd.snd.fst.fst.snd)), (y6.snd.snd.snd.fst.snd.fst, ())), ()))
      else none
    else none
  else if 1 ≤ (↑(List.length y3.snd.fst.fst.snd) : Int) then
    if (↑(List.length y3.snd.fst.fst.snd) : Int) ≤ (↑(List.length y3.snd.fst.fst.snd) : Int) then
      some (false, y3.fst.snd.fst, Sh.dflt (.ifc 93 (.agg [.i IntKind.i64, .i IntKind.i64])), (((y3.snd.fst.fst.fst, List.drop 1 (List.take (Int.toNat (↑(List.length y3.snd.fst.fst.snd) : Int)) y3.snd.fst.fst.snd)), (y3.snd.fst.snd.fst, ())), ()))
    else none
  else none := by kernel_rfl
theorem parse_parser_word_c (n : Nat) (b0 : Bool) (r1 : Rows) (j2 : Int) (y : Bool × ByteArray × (Int × Int × Unit) × ((Bool × Rows) × Int × Unit) × Unit) (h : parse_parser_word_v n b0 r1 j2 = some y) : Contract Tryd.prog 75 [AV.pl 1000 0] [[AV.sl b0 kdK r1 Right.no, AV.dv (DV.val (Value.int IntKind.i64 j2))]] (OSh.enc (OSh.pan (.s) (.ifc 93 (.agg [.i IntKind.i64, .i IntKind.i64])) [[.sl kdK, .i IntKind.i64]]) y) :=
  ac (OSh.pan (.s) (.ifc 93 (.agg [.i IntKind.i64, .i IntKind.i64])) [[.sl kdK, .i IntKind.i64]]) (parse_parser_word_σok n) Tryd.func75 (by decide) h
def parse_parser_args_lv : Live := [(5, [0, 3], [1000, 1001, 1002, 1003])]
noncomputable def parse_parser_args_σ (n : Nat) : Spec := (inst 74 [.pl 1000 0, .s] [[.sl kdK, .i IntKind.i64]] (OSh.pan (.tup []) (.ifc 93 (.agg [.i IntKind.i64, .i IntKind.i64])) [[.sl kdK, .i IntKind.i64]]) (fun x e => parse_parser_must_v n x.2.1 e.1.1.1 e.1.1.2 e.1.2.1) (inst 77 [.pl 1000 0, .s] [[.sl kdK, .i IntKind.i64]] (OSh.plain (.b) [[.sl kdK, .i IntKind.i64]]) (fun x e => parse_parser_pass_v n x.2.1 e.1.1.1 e.1.1.2 e.1.2.1) (inst 52 [.pl 1000 0] [[.sl kdK, .i IntKind.i64]] (OSh.plain (.b) [[.sl kdK, .i IntKind.i64]]) (fun x e => parse_parser_begins_v n e.1.1.1 e.1.1.2 e.1.2.1) (inst 73 [.pl 1000 0] [[.sl kdK, .i IntKind.i64]] (OSh.pan (.agg [.s, .b, .i IntKind.i64, .s]) (.ifc 93 (.agg [.i IntKind.i64, .i IntKind.i64])) [[.sl kdK, .i IntKind.i64]]) (fun x e => parse_parser_term_v n e.1.1.1 e.1.1.2 e.1.2.1) (inst 53 [.pl 1000 0, .i IntKind.i64] [[.sl kdK, .i IntKind.i64]] (OSh.pan (.junk) (.ifc 93 (.agg [.i IntKind.i64, .i IntKind.i64])) [[.sl kdK, .i IntKind.i64]]) (fun x e => parse_parser_fail_v n x.2.1 e.1.1.1 e.1.1.2 e.1.2.1) Spec.none)))))
theorem parse_parser_args_σok (n : Nat) : SpecOk Tryd.prog (parse_parser_args_σ n) := (inst_ok (fun x e y h => parse_parser_must_c n x.2.1 e.1.1.1 e.1.1.2 e.1.2.1 y h) (inst_ok (fun x e y h => parse_parser_pass_c n x.2.1 e.1.1.1 e.1.1.2 e.1.2.1 y h) (inst_ok (fun x e y h => parse_parser_begins_c n e.1.1.1 e.1.1.2 e.1.2.1 y h) (inst_ok (fun x e y h => parse_parser_term_c n e.1.1.1 e.1.1.2 e.1.2.1 y h) (inst_ok (fun x e y h => parse_parser_fail_c n x.2.1 e.1.1.1 e.1.1.2 e.1.2.1 y h) (SpecOk.none _))))))
noncomputable def parse_parser_args_Φ (n : Nat) : Orc := with_ Tryd.prog (parse_parser_args_σ n) [] n 0 hsL
noncomputable def parse_parser_args_v (n : Nat) (b0 : Bool) (r1 : Rows) (j2 : Int) : Option (Bool × (Bool × Rows) × (Int × Int × Unit) × ((Bool × Rows) × Int × Unit) × Unit) :=
  DM.denFn tm (parse_parser_args_Φ n) parse_parser_args_lv n Tryd.f76 true [AV.pl 1000 0] [[AV.sl b0 kdK r1 Right.no, AV.dv (DV.val (Value.int IntKind.i64 j2))]] (OSh.chk (OSh.pan (.slt kdT 0) (.ifc 93 (.agg [.i IntKind.i64, .i IntKind.i64])) [[.sl kdK, .i IntKind.i64]]))
noncomputable def parse_parser_args_l5 (n : Nat) (b0 : Bool) (r1 : Rows) (j2 : Int) (i0 : Nat) (b5 : Bool) (r6 : List (List DV)) (j7 : Int) (b15 : Bool) (r16 : List (List DV)) : Option (Bool × (Bool × Rows) × (Int × Int × Unit) × ((Bool × Rows) × Int × Unit) × Unit) :=
  DM.loopFn tm (parse_parser_args_Φ n) parse_parser_args_lv n Tryd.f76 true [[AV.sl b0 kdK r1 Right.no, AV.dv (DV.val (Value.int IntKind.i64 j2))]] (OSh.chk (OSh.pan (.slt kdT 0) (.ifc 93 (.agg [.i IntKind.i64, .i IntKind.i64])) [[.sl kdK, .i IntKind.i64]])) 5 [] i0 (St.mk [AV.pl 1000 0, Jk, Jk, AV.sl b15 kdT r16 (Right.tok 3), Jk, Jk, Jk, Jk, Jk, Jk, Jk, Jk, Jk, Jk, Jk, Jk, Jk, Jk, Jk, Jk, Jk, Jk, Jk, Jk, Jk, Jk, Jk] [(1000, [AV.sl b5 kdK r6 Right.no, AV.dv (DV.val (Value.int IntKind.i64 j7))])])
theorem parse_parser_args_s5 (n : Nat) (b0 : Bool) (r1 : Rows) (j2 : Int) (i0 : Nat) (b5 : Bool) (r6 : List (List DV)) (j7 : Int) (b15 : Bool) (r16 : List (List DV)) : parse_parser_args_l5 n b0 r1 j2 (i0 + 1) b5 r6 j7 b15 r16 =
  obind (parse_parser_begins_v n b5 r6 j7) fun y17 =>
  bif y17.fst then
    bif (↑(List.length r16) : Int) == 4 then
      obind (parse_parser_fail_v n 81 y17.snd.fst.fst.fst y17.snd.fst.fst.snd y17.snd.fst.snd.fst) fun y18 =>
      bif y18.fst then
        some (true, Sh.dflt (.slt kdT 0), (y18.snd.snd.fst.fst, (y18.snd.snd.fst.snd.fst, ())), (((y18.snd.snd.snd.fst.fst.fst, y18.snd.snd.snd.fst.fst.snd), (y18.snd.snd.snd.fst.snd.fst, ())), ()))
      else obind (parse_parser_term_v n y18.snd.snd.snd.fst.fst.fst y18.snd.snd.snd.fst.fst.snd y18.snd.snd.snd.fst.snd.fst) fun y19 =>
      bif y19.fst then
        some (true, Sh.dflt (.slt kdT 0), (y19.snd.snd.fst.fst, (y19.snd.snd.fst.snd.fst, ())), (((y19.snd.snd.snd.fst.fst.fst, y19.snd.snd.snd.fst.fst.snd), (y19.snd.snd.snd.fst.snd.fst, ())), ()))
      else if (List.length r16 + List.length [[DV.val (Value.string y19.snd.fst.fst), DV.val (Value.bool y19.snd.fst.snd.fst), DV.val (Value.int IntKind.i64 y19.snd.fst.snd.snd.fst), DV.val (Value.string y19.snd.fst.snd.snd.snd.fst)]]) * 48 ≤ 140737488355328 then
        obind (parse_parser_pass_v n (ByteArray.mk #[41]) y19.snd.snd.snd.fst.fst.fst y19.snd.snd.snd.fst.fst.snd y19.snd.snd.snd.fst.snd.fst) fun y20 =>
        bif y20.fst then
          some (false, (b15 && List.isEmpty [[DV.val (Value.string y19.snd.fst.fst), DV.val (Value.bool y19.snd.fst.snd.fst), DV.val (Value.int IntKind.i64 y19.snd.fst.snd.snd.fst), DV.val (Value.string y19.snd.fst.snd.snd.snd.fst)]], appX r16 [[DV.val (Value.string y19.snd.fst.fst), DV.val (Value.bool y19.snd.fst.snd.fst), DV.val (Value.int IntKind.i64 y19.snd.fst.snd.snd.fst), DV.val (Value.string y19.snd.fst.snd.snd.snd.fst)]]), Sh.dflt (.ifc 93 (.agg [.i IntKind.i64, .i IntKind.i64])), (((y20.snd.fst.fst.fst, y20.snd.fst.fst.snd), (y20.snd.fst.snd.fst, ())), ()))
        else obind (parse_parser_must_v n (ByteArray.mk #[44]) y20.snd.fst.fst.fst y20.snd.fst.fst.snd y20.snd.fst.snd.fst) fun y21 =>
        bif y21.fst then
          some (true, Sh.dflt (.slt kdT 0), (y21.snd.snd.fst.fst, (y21.snd.snd.fst.snd.fst, ())), (((y21.snd.snd.snd.fst.fst.fst, y21.snd.snd.snd.fst.fst.snd), (y21.snd.snd.snd.fst.snd.fst, ())), ()))
        else parse_parser_args_l5 n b0 r1 j2 i0 y21.snd.snd.snd.fst.fst.fst y21.snd.snd.snd.fst.fst.snd y21.snd.snd.snd.fst.snd.fst (b15 && List.isEmpty [[DV.val (Value.string y19.snd.fst.fst), DV.val (Value.bool y19.snd.fst.snd.fst), DV.val (Value.int IntKind.i64 y19.snd.fst.snd.snd.fst), DV.val (Value.string y19.snd.fst.snd.snd.snd.fst)]]) (appX r16 [[DV.val (Value.string y19.snd.fst.fst), DV.val (Value.bool y19.snd.fst.snd.fst), DV.val (Value.int IntKind.i64 y19.snd.fst.snd.snd.fst), DV.val (Value.string y19.snd.fst.snd.snd.snd.fst)]])
      else none
    else obind (parse_parser_term_v n y17.snd.fst.fst.fst y17.snd.fst.fst.snd y17.snd.fst.snd.fst) fun y22 =>
    bif y22.fst then
      some (true, Sh.dflt (.slt kdT 0), (y22.snd.snd.fst.fst, (y22.snd.snd.fst.snd.fst, ())), (((y22.snd.snd.snd.fst.fst.fst, y22.snd.snd.snd.fst.fst.snd), (y22.snd.snd.snd.fst.snd.fst, ())), ()))
    else if (List.length r16 + List.length [[DV.val (Value.string y22.snd.fst.fst), DV.val (Value.bool y22.snd.fst.snd.fst), DV.val (Value.int IntKind.i64 y22.snd.fst.snd.snd.fst), DV.val (Value.string y22.snd.fst.snd.snd.snd.fst)]]) * 48 ≤ 140737488355328 then
      obind (parse_parser_pass_v n (ByteArray.mk #[41]) y22.snd.snd.snd.fst.fst.fst y22.snd.snd.snd.fst.fst.snd y22.snd.snd.snd.fst.snd.fst) fun y23 =>
      bif y23.fst then
        some (false, (b15 && List.isEmpty [[DV.val (Value.string y22.snd.fst.fst), DV.val (Value.bool y22.snd.fst.snd.fst), DV.val (Value.int IntKind.i64 y22.snd.fst.snd.snd.fst), DV.val (Value.string y22.snd.fst.snd.snd.snd.fst)]], appX r16 [[DV.val (Value.string y22.snd.fst.fst), DV.val (Value.bool y22.snd.fst.snd.fst), DV.val (Value.int IntKind.i64 y22.snd.fst.snd.snd.fst), DV.val (Value.string y22.snd.fst.snd.snd.snd.fst)]]), Sh.dflt (.ifc 93 (.agg [.i IntKind.i64, .i IntKind.i64])), (((y23.snd.fst.fst.fst, y23.snd.fst.fst.snd), (y23.snd.fst.snd.fst, ())), ()))
      else obind (parse_parser_must_v n (ByteArray.mk #[44]) y23.snd.fst.fst.fst y23.snd.fst.fst.snd y23.snd.fst.snd.fst) fun y24 =>
      bif y24.fst then
        some (true, Sh.dflt (.slt kdT 0), (y24.snd.snd.fst.fst, (y24.snd.snd.fst.snd.fst, ())), (((y24.snd.snd.snd.fst.fst.fst, y24.snd.snd.snd.fst.fst.snd), (y24.snd.snd.snd.fst.snd.fst, ())), ()))
      else parse_parser_args_l5 n b0 r1 j2 i0 y24.snd.snd.snd.fst.fst.fst y24.snd.snd.snd.fst.fst.snd y24.snd.snd.snd.fst.snd.fst (b15 && List.isEmpty [[DV.val (Value.string y22.snd.fst.fst), DV.val (Value.bool y22.snd.fst.snd.fst), DV.val (Value.int IntKind.i64 y22.snd.fst.snd.snd.fst), DV.val (Value.string y22.snd.fst.snd.snd.snd.fst)]]) (appX r16 [[DV.val (Value.string y22.snd.fst.fst), DV.val (Value.bool y22.snd.fst.snd.fst), DV.val (Value.int IntKind.i64 y22.snd.fst.snd.snd.fst), DV.val (Value.string y22.snd.fst.snd.snd.snd.fst)]])
    else none
  else obind (parse_parser_term_v n y17.snd.fst.fst.fst y17.snd.fst.fst.snd y17.snd.fst.snd.fst) fun y25 =>
  bif y25.fst then
    some (true, Sh.dflt (.slt kdT 0), (y25.snd.snd.fst.fst, (y25.snd.snd.fst.snd.fst, ())), (((y25.snd.snd.snd.fst.fst.fst, y25.snd.snd.snd.fst.fst.snd), (y25.snd.snd.snd.fst.snd.fst, ())), ()))
  else if (List.length r16 + List.length [[DV.val (Value.string y25.snd.fst.fst), DV.val (Value.bool y25.snd.fst.snd.fst), DV.val (Value.int IntKind.i64 y25.snd.fst.snd.snd.fst), DV.val (Value.string y25.snd.fst.snd.snd.snd.fst)]]) * 48 ≤ 140737488355328 then
    obind (parse_parser_pass_v n (ByteArray.mk #[41]) y25.snd.snd.snd.fst.fst.fst y25.snd.snd.snd.fst.fst.snd y25.snd.snd.snd.fst.snd.fst) fun y26 =>
    bif y26.fst then
      some (false, (b15 && List.isEmpty [[DV.val (Value.string y25.snd.fst.fst), DV.val (Value.bool y25.snd.fst.snd.fst), DV.val (Value.int IntKind.i64 y25.snd.fst.snd.snd.fst), DV.val (Value.string y25.snd.fst.snd.snd.snd.fst)]], appX r16 [[DV.val (Value.string y25.snd.fst.fst), DV.val (Value.bool y25.snd.fst.snd.fst), DV.val (Value.int IntKind.i64 y25.snd.fst.snd.snd.fst), DV.val (Value.string y25.snd.fst.snd.snd.snd.fst)]]), Sh.dflt (.ifc 93 (.agg [.i IntKind.i64, .i IntKind.i64])), (((y26.snd.fst.fst.fst, y26.snd.fst.fst.snd), (y26.snd.fst.snd.fst, ())), ()))
    else obind (parse_parser_must_v n (ByteArray.mk #[44]) y26.snd.fst.fst.fst y26.snd.fst.fst.snd y26.snd.fst.snd.fst) fun y27 =>
    bif y27.fst then
      some (true, Sh.dflt (.slt kdT 0), (y27.snd.snd.fst.fst, (y27.snd.snd.fst.snd.fst, ())), (((y27.snd.snd.snd.fst.fst.fst, y27.snd.snd.snd.fst.fst.snd), (y27.snd.snd.snd.fst.snd.fst, ())), ()))
    else parse_parser_args_l5 n b0 r1 j2 i0 y27.snd.snd.snd.fst.fst.fst y27.snd.snd.snd.fst.fst.snd y27.snd.snd.snd.fst.snd.fst (b15 && List.isEmpty [[DV.val (Value.string y25.snd.fst.fst), DV.val (Value.bool y25.snd.fst.snd.fst), DV.val (Value.int IntKind.i64 y25.snd.fst.snd.snd.fst), DV.val (Value.string y25.snd.fst.snd.snd.snd.fst)]]) (appX r16 [[DV.val (Value.string y25.snd.fst.fst), DV.val (Value.bool y25.snd.fst.snd.fst), DV.val (Value.int IntKind.i64 y25.snd.fst.snd.snd.fst), DV.val (Value.string y25.snd.fst.snd.snd.snd.fst)]])
  else none := by kernel_rfl
theorem parse_parser_args_e (n : Nat) (b0 : Bool) (r1 : Rows) (j2 : Int) : parse_parser_args_v n b0 r1 j2 =
  obind (parse_parser_must_v n (ByteArray.mk #[40]) b0 r1 j2) fun y3 =>
  bif y3.fst then
    some (true, Sh.dflt (.slt kdT 0), (y3.snd.snd.fst.fst, (y3.snd.snd.fst.snd.fst, ())), (((y3.snd.snd.snd.fst.fst.fst, y3.snd.snd.snd.fst.fst.snd), (y3.snd.snd.snd.fst.snd.fst, ())), ()))
  else obind (parse_parser_pass_v n (ByteArray.mk #[41]) y3.snd.snd.snd.fst.fst.fst y3.snd.snd.snd.fst.fst.snd y3.snd.snd.snd.fst.snd.fst) fun y4 =>
  bif y4.fst then
    some (false, (true, []), Sh.dflt (.ifc 93 (.agg [.i IntKind.i64, .i IntKind.i64])), (((y4.snd.fst.fst.fst, y4.snd.fst.fst.snd), (y4.snd.fst.snd.fst, ())), ()))
  else parse_parser_args_l5 n b0 r1 j2 n y4.snd.fst.fst.fst y4.snd.fst.fst.snd y4.snd.fst.snd.fst true [] := by kernel_rfl
theorem parse_parser_args_c (n : Nat) (b0 : Bool) (r1 : Rows) (j2 : Int) (y : Bool × (Bool × Rows) × (Int × Int × Unit) × ((Bool × Rows) × Int × Unit) × Unit) (h : parse_parser_args_v n b0 r1 j2 = some y) : Contract Tryd.prog 76 [AV.pl 1000 0] [[AV.sl b0 kdK r1 Right.no, AV.dv (DV.val (Value.int IntKind.i64 j2))]] (OSh.enc (OSh.pan (.slt kdT 0) (.ifc 93 (.agg [.i IntKind.i64, .i IntKind.i64])) [[.sl kdK, .i IntKind.i64]]) y) :=
  ac (OSh.pan (.slt kdT 0) (.ifc 93 (.agg [.i IntKind.i64, .i IntKind.i64])) [[.sl kdK, .i IntKind.i64]]) (parse_parser_args_σok n) Tryd.func76 (by decide) h
def parse_parser_literal_lv : Live := []
noncomputable def parse_parser_literal_σ (n : Nat) : Spec := (inst 71 [.pl 1000 0] [[.sl kdK, .i IntKind.i64]] (OSh.plain (.agg [.i IntKind.i64, .s, .i IntKind.i64, .i IntKind.i64]) [[.sl kdK, .i IntKind.i64]]) (fun x e => parse_parser_next_v n e.1.1.1 e.1.1.2 e.1.2.1) (inst 73 [.pl 1000 0] [[.sl kdK, .i IntKind.i64]] (OSh.pan (.agg [.s, .b, .i IntKind.i64, .s]) (.ifc 93 (.agg [.i IntKind.i64, .i IntKind.i64])) [[.sl kdK, .i IntKind.i64]]) (fun x e => parse_parser_term_v n e.1.1.1 e.1.1.2 e.1.2.1) (inst 74 [.pl 1000 0, .s] [[.sl kdK, .i IntKind.i64]] (OSh.pan (.tup []) (.ifc 93 (.agg [.i IntKind.i64, .i IntKind.i64])) [[.sl kdK, .i IntKind.i64]]) (fun x e => parse_parser_must_v n x.2.1 e.1.1.1 e.1.1.2 e.1.2.1) (inst 75 [.pl 1000 0] [[.sl kdK, .i IntKind.i64]] (OSh.pan (.s) (.ifc 93 (.agg [.i IntKind.i64, .i IntKind.i64])) [[.sl kdK, .i IntKind.i64]]) (fun x e => parse_parser_word_v n e.1.1.1 e.1.1.2 e.1.2.1) (inst 76 [.pl 1000 0] [[.sl kdK, .i IntKind.i64]] (OSh.pan (.slt kdT 0) (.ifc 93 (.agg [.i IntKind.i64, .i IntKind.i64])) [[.sl kdK, .i IntKind.i64]]) (fun x e => parse_parser_args_v n e.1.1.1 e.1.1.2 e.1.2.1) (inst 77 [.pl 1000 0, .s] [[.sl kdK, .i IntKind.i64]] (OSh.plain (.b) [[.sl kdK, .i IntKind.i64]]) (fun x e => parse_parser_pass_v n x.2.1 e.1.1.1 e.1.1.2 e.1.2.1) Spec.none))))))
theorem parse_parser_literal_σok (n : Nat) : SpecOk Tryd.prog (parse_parser_literal_σ n) := (inst_ok (fun x e y h => parse_parser_next_c n e.1.1.1 e.1.1.2 e.1.2.1 y h) (inst_ok (fun x e y h => parse_parser_term_c n e.1.1.1 e.1.1.2 e.1.2.1 y h) (inst_ok (fun x e y h => parse_parser_must_c n x.2.1 e.1.1.1 e.1.1.2 e.1.2.1 y h) (inst_ok (fun x e y h => parse_parser_word_c n e.1.1.1 e.1.1.2 e.1.2.1 y h) (inst_ok (fun x e y h => parse_parser_args_c n e.1.1.1 e.1.1.2 e.1.2.1 y h) (inst_ok (fun x e y h => parse_parser_pass_c n x.2.1 e.1.1.1 e.1.1.2 e.1.2.1 y h) (SpecOk.none _)))))))
noncomputable def parse_parser_literal_Φ (n : Nat) : Orc := with_ Tryd.prog (parse_parser_literal_σ n) [] n 0 hsL
noncomputable def parse_parser_literal_v (n : Nat) (b0 : Bool) (r1 : Rows) (j2 : Int) : Option (Bool × (ByteArray × Bool × Int × ByteArray × ByteArray × (Bool × Rows) × ByteArray × Bool × Int × ByteArray × Unit) × (Int × Int × Unit) × ((Bool × Rows) × Int × Unit) × Unit) :=
  DM.denFn tm (parse_parser_literal_Φ n) parse_parser_literal_lv n Tryd.f78 false [AV.pl 1000 0] [[AV.sl b0 kdK r1 Right.no, AV.dv (DV.val (Value.int IntKind.i64 j2))]] (OSh.chk (OSh.pan (.agg [.s, .b, .i IntKind.i64, .s, .s, .sl kdT, .s, .b, .i IntKind.i64, .s]) (.ifc 93 (.agg [.i IntKind.i64, .i IntKind.i64])) [[.sl kdK, .i IntKind.i64]]))
theorem parse_parser_literal_e (n : Nat) (b0 : Bool) (r1 : Rows) (j2 : Int) : parse_parser_literal_v n b0 r1 j2 =
  obind (parse_parser_next_v n b0 r1 j2) fun y3 =>
  bif decide ((↑(List.length y3.snd.fst.fst.snd) : Int) > 1) then
    if 1 < (↑(List.length y3.snd.fst.fst.snd) : Int) then
      bif Row.I (List.getD y3.snd.fst.fst.snd 1 []) 0 == 1 then
        if 1 < (↑(List.length y3.snd.fst.fst.snd) : Int) then
          bif Row.S (List.getD y3.snd.fst.fst.snd 1 []) 1 == ByteArray.mk #[115, 97, 121, 115] then
            obind (parse_parser_term_v n y3.snd.fst.fst.fst y3.snd.fst.fst.snd y3.snd.fst.snd.fst) fun y4 =>
            bif y4.fst then
              some (true, Sh.dflt (.agg [.s, .b, .i IntKind.i64, .s, .s, .sl kdT, .s, .b, .i IntKind.i64, .s]), (y4.snd.snd.fst.fst, (y4.snd.snd.fst.snd.fst, ())), (((y4.snd.snd.snd.fst.fst.fst, y4.snd.snd.snd.fst.fst.snd), (y4.snd.snd.snd.fst.snd.fst, ())), ()))
            else obind (parse_parser_must_v n (ByteArray.mk #[115, 97, 121, 115]) y4.snd.snd.snd.fst.fst.fst y4.snd.snd.snd.fst.fst.snd y4.snd.snd.snd.fst.snd.fst) fun y5 =>
            bif y5.fst then
              some (true, Sh.dflt (.agg [.s, .b, .i IntKind.i64, .s, .s, .sl kdT, .s, .b, .i IntKind.i64, .s]), (y5.snd.snd.fst.fst, (y5.snd.snd.fst.snd.fst, ())), (((y5.snd.snd.snd.fst.fst.fst, y5.snd.snd.snd.fst.fst.snd), (y5.snd.snd.snd.fst.snd.fst, ())), ()))
            else obind (parse_parser_word_v n y5.snd.snd.snd.fst.fst.fst y5.snd.snd.snd.fst.fst.snd y5.snd.snd.snd.fst.snd.fst) fun y6 =>
            bif y6.fst then
              some (true, Sh.dflt (.agg [.s, .b, .i IntKind.i64, .s, .s, .sl kdT, .s, .b, .i IntKind.i64, .s]), (y6.snd.snd.fst.fst, (y6.snd.snd.fst.snd.fst, ())), (((y6.snd.snd.snd.fst.fst.fst, y6.snd.snd.snd.fst.fst.snd), (y6.snd.snd.snd.fst.snd.fst, ())), ()))
            else obind (parse_parser_args_v n y6.snd.snd.snd.fst.fst.fst y6.snd.snd.snd.fst.fst.snd y6.snd.snd.snd.fst.snd.fst) fun y7 =>
            bif y7.fst then
              some (true, Sh.dflt (.agg [.s, .b, .i IntKind.i64, .s, .s, .sl kdT, .s, .b, .i IntKind.i64, .s]), (y7.snd.snd.fst.fst, (y7.snd.snd.fst.snd.fst, ())), (((y7.snd.snd.snd.fst.fst.fst, y7.snd.snd.snd.fst.fst.snd), (y7.snd.snd.snd.fst.snd.fst, ())), ()))
            else obind (parse_parser_pass_v n (ByteArray.mk #[97, 116]) y7.snd.snd.snd.fst.fst.fst y7.snd.snd.snd.fst.fst.snd y7.snd.snd.snd.fst.snd.fst) fun y8 =>
            bif y8.fst then
              obind (parse_parser_term_v n y8.snd.fst.fst.fst y8.snd.fst.fst.snd y8.snd.fst.snd.fst) fun y9 =>
              bif y9.fst then
                some (true, Sh.dflt (.agg [.s, .b, .i IntKind.i64, .s, .s, .sl kdT, .s, .b, .i IntKind.i64, .s]), (y9.snd.snd.fst.fst, (y9.snd.snd.fst.snd.fst, ())), (((y9.snd.snd.snd.fst.fst.fst, y9.snd.snd.snd.fst.fst.snd), (y9.snd.snd.snd.fst.snd.fst, ())), ()))
              else some (false, (y4.snd.fst.fst, (y4.snd.fst.snd.fst, (y4.snd.fst.snd.snd.fst, (y4.snd.fst.snd.snd.snd.fst, (y6.snd.fst, ((y7.snd.fst.fst, y7.snd.fst.snd), (y9.snd.fst.fst, (y9.snd.fst.snd.fst, (y9.snd.fst.snd.snd.fst, (y9.snd.fst.snd.snd.snd.fst, ())))))))))), Sh.dflt (.ifc 93 (.agg [.i IntKind.i64, .i IntKind.i64])), (((y9.snd.snd.snd.fst.fst.fst, y9.snd.snd.snd.fst.fst.snd), (y9.snd.snd.snd.fst.snd.fst, ())), ()))
            else some (false, (y4.snd.fst.fst, (y4.snd.fst.snd.fst, (y4.snd.fst.snd.snd.fst, (y4.snd.fst.snd.snd.snd.fst, (y6.snd.fst, ((y7.snd.fst.fst, y7.snd.fst.snd), (ByteArray.mk #[], (false, (0, (ByteArray.mk #[], ())))))))))), Sh.dflt (.ifc 93 (.agg [.i IntKind.i64, .i IntKind.i64])), (((y8.snd.fst.fst.fst, y8.snd.fst.fst.snd), (y8.snd.fst.snd.fst, ())), ()))
          else bif y3.fst.fst != 1 then
            obind (parse_parser_term_v n y3.snd.fst.fst.fst y3.snd.fst.fst.snd y3.snd.fst.snd.fst) fun y10 =>
            bif y10.fst then
              some (true, Sh.dflt (.agg [.s, .b, .i IntKind.i64, .s, .s, .sl kdT, .s, .b, .i IntKind.i64, .s]), (y10.snd.snd.fst.fst, (y10.snd.snd.fst.snd.fst, ())), (((y10.snd.snd.snd.fst.fst.fst, y10.snd.snd.snd.fst.fst.snd), (y10.snd.snd.snd.fst.snd.fst, ())), ()))
            else obind (parse_parser_must_v n (ByteArray.mk #[115, 97, 121, 115]) y10.snd.snd.snd.fst.fst.fst y10.snd.snd.snd.fst.fst.snd y10.snd.snd.snd.fst.snd.fst) fun y11 =>
            bif y11.fst then
              some (true, Sh.dflt (.agg [.s, .b, .i IntKind.i64, .s, .s, .sl kdT, .s, .b, .i IntKind.i64, .s]), (y11.snd.snd.fst.fst, (y11.snd.snd.fst.snd.fst, ())), (((y11.snd.snd.snd.fst.fst.fst, y11.snd.snd.snd.fst.fst.snd), (y11.snd.snd.snd.fst.snd.fst, ())), ()))
            else obind (parse_parser_word_v n y11.snd.snd.snd.fst.fst.fst y11.snd.snd.snd.fst.fst.snd y11.snd.snd.snd.fst.snd.fst) fun y12 =>
            bif y12.fst then
              some (true, Sh.dflt (.agg [.s, .b, .i IntKind.i64, .s, .s, .sl kdT, .s, .b, .i IntKind.i64, .s]), (y12.snd.snd.fst.fst, (y12.snd.snd.fst.snd.fst, ())), (((y12.snd.snd.snd.fst.fst.fst, y12.snd.snd.snd.fst.fst.snd), (y12.snd.snd.snd.fst.snd.fst, ())), ()))
            else obind (parse_parser_args_v n y12.snd.snd.snd.fst.fst.fst y12.snd.snd.snd.fst.fst.snd y12.snd.snd.snd.fst.snd.fst) fun y13 =>
            bif y13.fst then
              some (true, Sh.dflt (.agg [.s, .b, .i IntKind.i64, .s, .s, .sl kdT, .s, .b, .i IntKind.i64, .s]), (y13.snd.snd.fst.fst, (y13.snd.snd.fst.snd.fst, ())), (((y13.snd.snd.snd.fst.fst.fst, y13.snd.snd.snd.fst.fst.snd), (y13.snd.snd.snd.fst.snd.fst, ())), ()))
            else obind (parse_parser_pass_v n (ByteArray.mk #[97, 116]) y13.snd.snd.snd.fst.fst.fst y13.snd.snd.snd.fst.fst.snd y13.snd.snd.snd.fst.snd.fst) fun y14 =>
            bif y14.fst then
              obind (parse_parser_term_v n y14.snd.fst.fst.fst y14.snd.fst.fst.snd y14.snd.fst.snd.fst) fun y15 =>
              bif y15.fst then
                some (true, Sh.dflt (.agg [.s, .b, .i IntKind.i64, .s, .s, .sl kdT, .s, .b, .i IntKind.i64, .s]), (y15.snd.snd.fst.fst, (y15.snd.snd.fst.snd.fst, ())), (((y15.snd.snd.snd.fst.fst.fst, y15.snd.snd.snd.fst.fst.snd), (y15.snd.snd.snd.fst.snd.fst, ())), ()))
              else some (false, (y10.snd.fst.fst, (y10.snd.fst.snd.fst, (y10.snd.fst.snd.snd.fst, (y10.snd.fst.snd.snd.snd.fst, (y12.snd.fst, ((y13.snd.fst.fst, y13.snd.fst.snd), (y15.snd.fst.fst, (y15.snd.fst.snd.fst, (y15.snd.fst.snd.snd.fst, (y15.snd.fst.snd.snd.snd.fst, ())))))))))), Sh.dflt (.ifc 93 (.agg [.i IntKind.i64, .i IntKind.i64])), (((y15.snd.snd.snd.fst.fst.fst, y15.snd.snd.snd.fst.fst.snd), (y15.snd.snd.snd.fst.snd.fst, ())), ()))
            else some (false, (y10.snd.fst.fst, (y10.snd.fst.snd.fst, (y10.snd.fst.snd.snd.fst, (y10.snd.fst.snd.snd.snd.fst, (y12.snd.fst, ((y13.snd.fst.fst, y13.snd.fst.snd), (ByteArray.mk #[], (false, (0, (ByteArray.mk #[], ())))))))))), Sh.dflt (.ifc 93 (.agg [.i IntKind.i64, .i IntKind.i64])), (((y14.snd.fst.fst.fst, y14.snd.fst.fst.snd), (y14.snd.fst.snd.fst, ())), ()))
          else obind (parse_parser_word_v n y3.snd.fst.fst.fst y3.snd.fst.fst.snd y3.snd.fst.snd.fst) fun y16 =>
          bif y16.fst then
            some (true, Sh.dflt (.agg [.s, .b, .i IntKind.i64, .s, .s, .sl kdT, .s, .b, .i IntKind.i64, .s]), (y16.snd.snd.fst.fst, (y16.snd.snd.fst.snd.fst, ())), (((y16.snd.snd.snd.fst.fst.fst, y16.snd.snd.snd.fst.fst.snd), (y16.snd.snd.snd.fst.snd.fst, ())), ()))
          else obind (parse_parser_args_v n y16.snd.snd.snd.fst.fst.fst y16.snd.snd.snd.fst.fst.snd y16.snd.snd.snd.fst.snd.fst) fun y17 =>
          bif y17.fst then
            some (true, Sh.dflt (.agg [.s, .b, .i IntKind.i64, .s, .s, .sl kdT, .s, .b, .i IntKind.i64, .s]), (y17.snd.snd.fst.fst, (y17.snd.snd.fst.snd.fst, ())), (((y17.snd.snd.snd.fst.fst.fst, y17.snd.snd.snd.fst.fst.snd), (y17.snd.snd.snd.fst.snd.fst, ())), ()))
          else obind (parse_parser_pass_v n (ByteArray.mk #[97, 116]) y17.snd.snd.snd.fst.fst.fst y17.snd.snd.snd.fst.fst.snd y17.snd.snd.snd.fst.snd.fst) fun y18 =>
          bif y18.fst then
            obind (parse_parser_term_v n y18.snd.fst.fst.fst y18.snd.fst.fst.snd y18.snd.fst.snd.fst) fun y19 =>
            bif y19.fst then
              some (true, Sh.dflt (.agg [.s, .b, .i IntKind.i64, .s, .s, .sl kdT, .s, .b, .i IntKind.i64, .s]), (y19.snd.snd.fst.fst, (y19.snd.snd.fst.snd.fst, ())), (((y19.snd.snd.snd.fst.fst.fst, y19.snd.snd.snd.fst.fst.snd), (y19.snd.snd.snd.fst.snd.fst, ())), ()))
            else some (false, (ByteArray.mk #[], (false, (0, (ByteArray.mk #[], (y16.snd.fst, ((y17.snd.fst.fst, y17.snd.fst.snd), (y19.snd.fst.fst, (y19.snd.fst.snd.fst, (y19.snd.fst.snd.snd.fst, (y19.snd.fst.snd.snd.snd.fst, ())))))))))), Sh.dflt (.ifc 93 (.agg [.i IntKind.i64, .i IntKind.i64])), (((y19.snd.snd.snd.fst.fst.fst, y19.snd.snd.snd.fst.fst.snd), (y19.snd.snd.snd.fst.snd.fst, ())), ()))
          else some (false, (ByteArray.mk #[], (false, (0, (ByteArray.mk #[], (y16.snd.fst, ((y17.snd.fst.fst, y17.snd.fst.snd), (ByteArray.mk #[], (false, (0, (ByteArray.mk #[], ())))))))))), Sh.dflt (.ifc 93 (.agg [.i IntKind.i64, .i IntKind.i64])), (((y18.snd.fst.fst.fst, y18.snd.fst.fst.snd), (y18.snd.fst.snd.fst, ())), ()))
        else none
      else bif y3.fst.fst != 1 then
        obind (parse_parser_term_v n y3.snd.fst.fst.fst y3.snd.fst.fst.snd y3.snd.fst.snd.fst) fun y20 =>
        bif y20.fst then
          some (true, Sh.dflt (.agg [.s, .b, .i IntKind.i64, .s, .s, .sl kdT, .s, .b, .i IntKind.i64, .s]), (y20.snd.snd.fst.fst, (y20.snd.snd.fst.snd.fst, ())), (((y20.snd.snd.snd.fst.fst.fst, y20.snd.snd.snd.fst.fst.snd), (y20.snd.snd.snd.fst.snd.fst, ())), ()))
        else obind (parse_parser_must_v n (ByteArray.mk #[115, 97, 121, 115]) y20.snd.snd.snd.fst.fst.fst y20.snd.snd.snd.fst.fst.snd y20.snd.snd.snd.fst.snd.fst) fun y21 =>
        bif y21.fst then
          some (true, Sh.dflt (.agg [.s, .b, .i IntKind.i64, .s, .s, .sl kdT, .s, .b, .i IntKind.i64, .s]), (y21.snd.snd.fst.fst, (y21.snd.snd.fst.snd.fst, ())), (((y21.snd.snd.snd.fst.fst.fst, y21.snd.snd.snd.fst.fst.snd), (y21.snd.snd.snd.fst.snd.fst, ())), ()))
        else obind (parse_parser_word_v n y21.snd.snd.snd.fst.fst.fst y21.snd.snd.snd.fst.fst.snd y21.snd.snd.snd.fst.snd.fst) fun y22 =>
        bif y22.fst then
          some (true, Sh.dflt (.agg [.s, .b, .i IntKind.i64, .s, .s, .sl kdT, .s, .b, .i IntKind.i64, .s]), (y22.snd.snd.fst.fst, (y22.snd.snd.fst.snd.fst, ())), (((y22.snd.snd.snd.fst.fst.fst, y22.snd.snd.snd.fst.fst.snd), (y22.snd.snd.snd.fst.snd.fst, ())), ()))
        else obind (parse_parser_args_v n y22.snd.snd.snd.fst.fst.fst y22.snd.snd.snd.fst.fst.snd y22.snd.snd.snd.fst.snd.fst) fun y23 =>
        bif y23.fst then
          some (true, Sh.dflt (.agg [.s, .b, .i IntKind.i64, .s, .s, .sl kdT, .s, .b, .i IntKind.i64, .s]), (y23.snd.snd.fst.fst, (y23.snd.snd.fst.snd.fst, ())), (((y23.snd.snd.snd.fst.fst.fst, y23.snd.snd.snd.fst.fst.snd), (y23.snd.snd.snd.fst.snd.fst, ())), ()))
        else obind (parse_parser_pass_v n (ByteArray.mk #[97, 116]) y23.snd.snd.snd.fst.fst.fst y23.snd.snd.snd.fst.fst.snd y23.snd.snd.snd.fst.snd.fst) fun y24 =>
        bif y24.fst then
          obind (parse_parser_term_v n y24.snd.fst.fst.fst y24.snd.fst.fst.snd y24.snd.fst.snd.fst) fun y25 =>
          bif y25.fst then
            some (true, Sh.dflt (.agg [.s, .b, .i IntKind.i64, .s, .s, .sl kdT, .s, .b, .i IntKind.i64, .s]), (y25.snd.snd.fst.fst, (y25.snd.snd.fst.snd.fst, ())), (((y25.snd.snd.snd.fst.fst.fst, y25.snd.snd.snd.fst.fst.snd), (y25.snd.snd.snd.fst.snd.fst, ())), ()))
          else some (false, (y20.snd.fst.fst, (y20.snd.fst.snd.fst, (y20.snd.fst.snd.snd.fst, (y20.snd.fst.snd.snd.snd.fst, (y22.snd.fst, ((y23.snd.fst.fst, y23.snd.fst.snd), (y25.snd.fst.fst, (y25.snd.fst.snd.fst, (y25.snd.fst.snd.snd.fst, (y25.snd.fst.snd.snd.snd.fst, ())))))))))), Sh.dflt (.ifc 93 (.agg [.i IntKind.i64, .i IntKind.i64])), (((y25.snd.snd.snd.fst.fst.fst, y25.snd.snd.snd.fst.fst.snd), (y25.snd.snd.snd.fst.snd.fst, ())), ()))
        else some (false, (y20.snd.fst.fst, (y20.snd.fst.snd.fst, (y20.snd.fst.snd.snd.fst, (y20.snd.fst.snd.snd.snd.fst, (y22.snd.fst, ((y23.snd.fst.fst, y23.snd.fst.snd), (ByteArray.mk #[], (false, (0, (ByteArray.mk #[], ())))))))))), Sh.dflt (.ifc 93 (.agg [.i IntKind.i64, .i IntKind.i64])), (((y24.snd.fst.fst.fst, y24.snd.fst.fst.snd), (y24.snd.fst.snd.fst, ())), ()))
      else obind (parse_parser_word_v n y3.snd.fst.fst.fst y3.snd.fst.fst.snd y3.snd.fst.snd.fst) fun y26 =>
      bif y26.fst then
        some (true, Sh.dflt (.agg [.s, .b, .i IntKind.i64, .s, .s, .sl kdT, .s, .b, .i IntKind.i64, .s]), (y26.snd.snd.fst.fst, (y26.snd.snd.fst.snd.fst, ())), (((y26.snd.snd.snd.fst.fst.fst, y26.snd.snd.snd.fst.fst.snd), (y26.snd.snd.snd.fst.snd.fst, ())), ()))
      else obind (parse_parser_args_v n y26.snd.snd.snd.fst.fst.fst y26.snd.snd.snd.fst.fst.snd y26.snd.snd.snd.fst.snd.fst) fun y27 =>
      bif y27.fst then
        some (true, Sh.dflt (.agg [.s, .b, .i IntKind.i64, .s, .s, .sl kdT, .s, .b, .i IntKind.i64, .s]), (y27.snd.snd.fst.fst, (y27.snd.snd.fst.snd.fst, ())), (((y27.snd.snd.snd.fst.fst.fst, y27.snd.snd.snd.fst.fst.snd), (y27.snd.snd.snd.fst.snd.fst, ())), ()))
      else obind (parse_parser_pass_v n (ByteArray.mk #[97, 116]) y27.snd.snd.snd.fst.fst.fst y27.snd.snd.snd.fst.fst.snd y27.snd.snd.snd.fst.snd.fst) fun y28 =>
      bif y28.fst then
        obind (parse_parser_term_v n y28.snd.fst.fst.fst y28.snd.fst.fst.snd y28.snd.fst.snd.fst) fun y29 =>
        bif y29.fst then
          some (true, Sh.dflt (.agg [.s, .b, .i IntKind.i64, .s, .s, .sl kdT, .s, .b, .i IntKind.i64, .s]), (y29.snd.snd.fst.fst, (y29.snd.snd.fst.snd.fst, ())), (((y29.snd.snd.snd.fst.fst.fst, y29.snd.snd.snd.fst.fst.snd), (y29.snd.snd.snd.fst.snd.fst, ())), ()))
        else some (false, (ByteArray.mk #[], (false, (0, (ByteArray.mk #[], (y26.snd.fst, ((y27.snd.fst.fst, y27.snd.fst.snd), (y29.snd.fst.fst, (y29.snd.fst.snd.fst, (y29.snd.fst.snd.snd.fst, (y29.snd.fst.snd.snd.snd.fst, ())))))))))), Sh.dflt (.ifc 93 (.agg [.i IntKind.i64, .i IntKind.i64])), (((y29.snd.snd.snd.fst.fst.fst, y29.snd.snd.snd.fst.fst.snd), (y29.snd.snd.snd.fst.snd.fst, ())), ()))
      else some (false, (ByteArray.mk #[], (false, (0, (ByteArray.mk #[], (y26.snd.fst, ((y27.snd.fst.fst, y27.snd.fst.snd), (ByteArray.mk #[], (false, (0, (ByteArray.mk #[], ())))))))))), Sh.dflt (.ifc 93 (.agg [.i IntKind.i64, .i IntKind.i64])), (((y28.snd.fst.fst.fst, y28.snd.fst.fst.snd), (y28.snd.fst.snd.fst, ())), ()))
    else none
  else bif y3.fst.fst != 1 then
    obind (parse_parser_term_v n y3.snd.fst.fst.fst y3.snd.fst.fst.snd y3.snd.fst.snd.fst) fun y30 =>
    bif y30.fst then
      some (true, Sh.dflt (.agg [.s, .b, .i IntKind.i64, .s, .s, .sl kdT, .s, .b, .i IntKind.i64, .s]), (y30.snd.snd.fst.fst, (y30.snd.snd.fst.snd.fst, ())), (((y30.snd.snd.snd.fst.fst.fst, y30.snd.snd.snd.fst.fst.snd), (y30.snd.snd.snd.fst.snd.fst, ())), ()))
    else obind (parse_parser_must_v n (ByteArray.mk #[115, 97, 121, 115]) y30.snd.snd.snd.fst.fst.fst y30.snd.snd.snd.fst.fst.snd y30.snd.snd.snd.fst.snd.fst) fun y31 =>
    bif y31.fst then
      some (true, Sh.dflt (.agg [.s, .b, .i IntKind.i64, .s, .s, .sl kdT, .s, .b, .i IntKind.i64, .s]), (y31.snd.snd.fst.fst, (y31.snd.snd.fst.snd.fst, ())), (((y31.snd.snd.snd.fst.fst.fst, y31.snd.snd.snd.fst.fst.snd), (y31.snd.snd.snd.fst.snd.fst, ())), ()))
    else obind (parse_parser_word_v n y31.snd.snd.snd.fst.fst.fst y31.snd.snd.snd.fst.fst.snd y31.snd.snd.snd.fst.snd.fst) fun y32 =>
    bif y32.fst then
      some (true, Sh.dflt (.agg [.s, .b, .i IntKind.i64, .s, .s, .sl kdT, .s, .b, .i IntKind.i64, .s]), (y32.snd.snd.fst.fst, (y32.snd.snd.fst.snd.fst, ())), (((y32.snd.snd.snd.fst.fst.fst, y32.snd.snd.snd.fst.fst.snd), (y32.snd.snd.snd.fst.snd.fst, ())), ()))
    else obind (parse_parser_args_v n y32.snd.snd.snd.fst.fst.fst y32.snd.snd.snd.fst.fst.snd y32.snd.snd.snd.fst.snd.fst) fun y33 =>
    bif y33.fst then
      some (true, Sh.dflt (.agg [.s, .b, .i IntKind.i64, .s, .s, .sl kdT, .s, .b, .i IntKind.i64, .s]), (y33.snd.snd.fst.fst, (y33.snd.snd.fst.snd.fst, ())), (((y33.snd.snd.snd.fst.fst.fst, y33.snd.snd.snd.fst.fst.snd), (y33.snd.snd.snd.fst.snd.fst, ())), ()))
    else obind (parse_parser_pass_v n (ByteArray.mk #[97, 116]) y33.snd.snd.snd.fst.fst.fst y33.snd.snd.snd.fst.fst.snd y33.snd.snd.snd.fst.snd.fst) fun y34 =>
    bif y34.fst then
      obind (parse_parser_term_v n y34.snd.fst.fst.fst y34.snd.fst.fst.snd y34.snd.fst.snd.fst) fun y35 =>
      bif y35.fst then
        some (true, Sh.dflt (.agg [.s, .b, .i IntKind.i64, .s, .s, .sl kdT, .s, .b, .i IntKind.i64, .s]), (y35.snd.snd.fst.fst, (y35.snd.snd.fst.snd.fst, ())), (((y35.snd.snd.snd.fst.fst.fst, y35.snd.snd.snd.fst.fst.snd), (y35.snd.snd.snd.fst.snd.fst, ())), ()))
      else some (false, (y30.snd.fst.fst, (y30.snd.fst.snd.fst, (y30.snd.fst.snd.snd.fst, (y30.snd.fst.snd.snd.snd.fst, (y32.snd.fst, ((y33.snd.fst.fst, y33.snd.fst.snd), (y35.snd.fst.fst, (y35.snd.fst.snd.fst, (y35.snd.fst.snd.snd.fst, (y35.snd.fst.snd.snd.snd.fst, ())))))))))), Sh.dflt (.ifc 93 (.agg [.i IntKind.i64, .i IntKind.i64])), (((y35.snd.snd.snd.fst.fst.fst, y35.snd.snd.snd.fst.fst.snd), (y35.snd.snd.snd.fst.snd.fst, ())), ()))
    else some (false, (y30.snd.fst.fst, (y30.snd.fst.snd.fst, (y30.snd.fst.snd.snd.fst, (y30.snd.fst.snd.snd.snd.fst, (y32.snd.fst, ((y33.snd.fst.fst, y33.snd.fst.snd), (ByteArray.mk #[], (false, (0, (ByteArray.mk #[], ())))))))))), Sh.dflt (.ifc 93 (.agg [.i IntKind.i64, .i IntKind.i64])), (((y34.snd.fst.fst.fst, y34.snd.fst.fst.snd), (y34.snd.fst.snd.fst, ())), ()))
  else obind (parse_parser_word_v n y3.snd.fst.fst.fst y3.snd.fst.fst.snd y3.snd.fst.snd.fst) fun y36 =>
  bif y36.fst then
    some (true, Sh.dflt (.agg [.s, .b, .i IntKind.i64, .s, .s, .sl kdT, .s, .b, .i IntKind.i64, .s]), (y36.snd.snd.fst.fst, (y36.snd.snd.fst.snd.fst, ())), (((y36.snd.snd.snd.fst.fst.fst, y36.snd.snd.snd.fst.fst.snd), (y36.snd.snd.snd.fst.snd.fst, ())), ()))
  else obind (parse_parser_args_v n y36.snd.snd.snd.fst.fst.fst y36.snd.snd.snd.fst.fst.snd y36.snd.snd.snd.fst.snd.fst) fun y37 =>
  bif y37.fst then
    some (true, Sh.dflt (.agg [.s, .b, .i IntKind.i64, .s, .s, .sl kdT, .s, .b, .i IntKind.i64, .s]), (y37.snd.snd.fst.fst, (y37.snd.snd.fst.snd.fst, ())), (((y37.snd.snd.snd.fst.fst.fst, y37.snd.snd.snd.fst.fst.snd), (y37.snd.snd.snd.fst.snd.fst, ())), ()))
  else obind (parse_parser_pass_v n (ByteArray.mk #[97, 116]) y37.snd.snd.snd.fst.fst.fst y37.snd.snd.snd.fst.fst.snd y37.snd.snd.snd.fst.snd.fst) fun y38 =>
  bif y38.fst then
    obind (parse_parser_term_v n y38.snd.fst.fst.fst y38.snd.fst.fst.snd y38.snd.fst.snd.fst) fun y39 =>
    bif y39.fst then
      some (true, Sh.dflt (.agg [.s, .b, .i IntKind.i64, .s, .s, .sl kdT, .s, .b, .i IntKind.i64, .s]), (y39.snd.snd.fst.fst, (y39.snd.snd.fst.snd.fst, ())), (((y39.snd.snd.snd.fst.fst.fst, y39.snd.snd.snd.fst.fst.snd), (y39.snd.snd.snd.fst.snd.fst, ())), ()))
    else some (false, (ByteArray.mk #[], (false, (0, (ByteArray.mk #[], (y36.snd.fst, ((y37.snd.fst.fst, y37.snd.fst.snd), (y39.snd.fst.fst, (y39.snd.fst.snd.fst, (y39.snd.fst.snd.snd.fst, (y39.snd.fst.snd.snd.snd.fst, ())))))))))), Sh.dflt (.ifc 93 (.agg [.i IntKind.i64, .i IntKind.i64])), (((y39.snd.snd.snd.fst.fst.fst, y39.snd.snd.snd.fst.fst.snd), (y39.snd.snd.snd.fst.snd.fst, ())), ()))
  else some (false, (ByteArray.mk #[], (false, (0, (ByteArray.mk #[], (y36.snd.fst, ((y37.snd.fst.fst, y37.snd.fst.snd), (ByteArray.mk #[], (false, (0, (ByteArray.mk #[], ())))))))))), Sh.dflt (.ifc 93 (.agg [.i IntKind.i64, .i IntKind.i64])), (((y38.snd.fst.fst.fst, y38.snd.fst.fst.snd), (y38.snd.fst.snd.fst, ())), ())) := by kernel_rfl
theorem parse_parser_literal_c (n : Nat) (b0 : Bool) (r1 : Rows) (j2 : Int) (y : Bool × (ByteArray × Bool × Int × ByteArray × ByteArray × (Bool × Rows) × ByteArray × Bool × Int × ByteArray × Unit) × (Int × Int × Unit) × ((Bool × Rows) × Int × Unit) × Unit) (h : parse_parser_literal_v n b0 r1 j2 = some y) : Contract Tryd.prog 78 [AV.pl 1000 0] [[AV.sl b0 kdK r1 Right.no, AV.dv (DV.val (Value.int IntKind.i64 j2))]] (OSh.enc (OSh.pan (.agg [.s, .b, .i IntKind.i64, .s, .s, .sl kdT, .s, .b, .i IntKind.i64, .s]) (.ifc 93 (.agg [.i IntKind.i64, .i IntKind.i64])) [[.sl kdK, .i IntKind.i64]]) y) :=
  ac (OSh.pan (.agg [.s, .b, .i IntKind.i64, .s, .s, .sl kdT, .s, .b, .i IntKind.i64, .s]) (.ifc 93 (.agg [.i IntKind.i64, .i IntKind.i64])) [[.sl kdK, .i IntKind.i64]]) (parse_parser_literal_σok n) Tryd.func78 (by decide) h
end Go.Den
namespace Go.Proofs
open Go.Shelf
def itoaLays_ren : Go.Shelf.Ren := ⟨fun | 171 => 35 | 243 => 64 | 246 => 86 | 283 => 102 | 284 => 103 | 285 => 104 | 286 => 105 | 129 => 108 | 317 => 107 | 318 => 109 | 319 => 110 | 320 => 111 | 337 => 112 | 338 => 113 | n => n, fun | 3 => 3 | 9 => 9 | 2 => 2 | 4 => 4 | 171 => 130 | 0 => 0 | 53 => 131 | 37 => 69 | 5 => 5 | 173 => 134 | 212 => 138 | 51 => 139 | 20 => 20 | 213 => 140 | 46 => 54 | 232 => 144 | 233 => 145 | n => n, fun | 17 => 0 | 18 => 1 | 19 => 2 | n => n⟩
theorem itoaLays : Go.Proofs.LaysM.n171 Tryd.prog itoaLays_ren := {
  mixed := by kernel_rfl
  f129 := Tryd.func108.trans (congrArg some (by kernel_rfl))
  f171 := Tryd.func35.trans (congrArg some (by kernel_rfl))
  f243 := Tryd.func64.trans (congrArg some (by kernel_rfl))
  f246 := Tryd.func86.trans (congrArg some (by kernel_rfl))
  f283 := Tryd.func102.trans (congrArg some (by kernel_rfl))
  f284 := Tryd.func103.trans (congrArg some (by kernel_rfl))
  f285 := Tryd.func104.trans (congrArg some (by kernel_rfl))
  f286 := Tryd.func105.trans (congrArg some (by kernel_rfl))
  f317 := Tryd.func107.trans (congrArg some (by kernel_rfl))
  f318 := Tryd.func109.trans (congrArg some (by kernel_rfl))
  f319 := Tryd.func110.trans (congrArg some (by kernel_rfl))
  f320 := Tryd.func111.trans (congrArg some (by kernel_rfl))
  f337 := Tryd.func112.trans (congrArg some (by kernel_rfl))
  f338 := Tryd.func113.trans (congrArg some (by kernel_rfl))
  t0 := Tryd.underlying0
  a0 := Tryd.isAgg0
  z0 := Tryd.sizeOf0
  v0 := Tryd.zeroValue0
  t2 := Tryd.underlying2
  a2 := Tryd.isAgg2
  z2 := Tryd.sizeOf2
  v2 := Tryd.zeroValue2
  t3 := Tryd.underlying3
  a3 := Tryd.isAgg3
  z3 := Tryd.sizeOf3
  v3 := Tryd.zeroValue3
  t4 := Tryd.underlying4
  a4 := Tryd.isAgg4
  z4 := Tryd.sizeOf4
  v4 := Tryd.zeroValue4
  t5 := Tryd.underlying5
  a5 := Tryd.isAgg5
  z5 := Tryd.sizeOf5
  v5 := Tryd.zeroValue5
  t9 := Tryd.underlying9
  a9 := Tryd.isAgg9
  z9 := Tryd.sizeOf9
  v9 := Tryd.zeroValue9
  t20 := Tryd.underlying20
  a20 := Tryd.isAgg20
  z20 := Tryd.sizeOf20
  v20 := Tryd.zeroValue20
  t37 := Tryd.underlying69
  a37 := Tryd.isAgg69
  z37 := Tryd.sizeOf69
  v37 := Tryd.zeroValue69
  t46 := Tryd.underlying54
  a46 := Tryd.isAgg54
  z46 := Tryd.sizeOf54
  v46 := Tryd.zeroValue54
  t51 := Tryd.underlying139
  a51 := Tryd.isAgg139
  z51 := Tryd.sizeOf139
  v51 := Tryd.zeroValue139
  t53 := Tryd.underlying131
  a53 := Tryd.isAgg131
  z53 := Tryd.sizeOf131
  v53 := Tryd.zeroValue131
  t171 := Tryd.underlying130
  a171 := Tryd.isAgg130
  z171 := Tryd.sizeOf130
  v171 := Tryd.zeroValue130
  t173 := Tryd.underlying134
  a173 := Tryd.isAgg134
  z173 := Tryd.sizeOf134
  v173 := Tryd.zeroValue134
  t212 := Tryd.underlying138
  a212 := Tryd.isAgg138
  z212 := Tryd.sizeOf138
  v212 := Tryd.zeroValue138
  t213 := Tryd.underlying140
  a213 := Tryd.isAgg140
  z213 := Tryd.sizeOf140
  t232 := Tryd.underlying144
  a232 := Tryd.isAgg144
  z232 := Tryd.sizeOf144
  v232 := Tryd.zeroValue144
  t233 := Tryd.underlying145
  a233 := Tryd.isAgg145
  z233 := Tryd.sizeOf145
  v233 := Tryd.zeroValue145
  g17 := by kernel_rfl
  g18 := by kernel_rfl
  g19 := by kernel_rfl
  i0 := by kernel_rfl
  i2 := by kernel_rfl
  i3 := by kernel_rfl
  i4 := by kernel_rfl
  i5 := by kernel_rfl
  i9 := by kernel_rfl
  i20 := by kernel_rfl
  i37 := by kernel_rfl
  i46 := by kernel_rfl
  i51 := by kernel_rfl
  i53 := by kernel_rfl
  i171 := by kernel_rfl
  i173 := by kernel_rfl
  i212 := by kernel_rfl
  i232 := by kernel_rfl
  i233 := by kernel_rfl
  m17 := by kernel_rfl
  m18 := by kernel_rfl
  m19 := by kernel_rfl }
end Go.Proofs
/- strings.Builder within another variable: what its methods do. -/
namespace Go.Den
open Go.Proofs Go.RowKit
set_option maxHeartbeats 1000000 in
set_option maxRecDepth 100000 in
theorem copy_used (b : Nat) (w : World) (h0 : w.cell? ⟨b, 0, none⟩ = some (.pointer (some ⟨b, 0, none⟩))) :
    Calls Tryd.prog 67 #[.pointer (some ⟨b, 0, none⟩)] w fun e w' => e = .returned (.tuple #[]) ∧ w' = w := by
  obtain ⟨j, hj, _⟩ := Option.map_eq_some_iff.1 (show (Tryd.prog.info? 71).map (·.size) = some 2 by kernel_rfl)
  have mixed : Tryd.prog.follows .mixedOrders = true := by kernel_rfl
  go_enter Tryd.func67, Tryd.ntmps67
  go_wp2
  rw [Lib.run_neq_ptr_same w _ Tryd.underlying68 hj]
  go_wp2
  go_end0
  exact ⟨rfl, rfl⟩
set_option maxHeartbeats 1000000 in
set_option maxRecDepth 100000 in
theorem copy_new (b : Nat) (w : World) (h0 : w.cell? ⟨b, 0, none⟩ = some (.pointer none)) (hsh : w.shape? b = some (73, 3)) (hfz : w.frozen? ⟨b, 0, none⟩ = false) :
    Calls Tryd.prog 67 #[.pointer (some ⟨b, 0, none⟩)] w fun e w' => e = .returned (.tuple #[]) ∧ w' = w.setCell ⟨b, 0, none⟩ (.pointer (some ⟨b, 0, none⟩)) := by
  obtain ⟨j, hj, hjs⟩ := Option.map_eq_some_iff.1 (show (Tryd.prog.info? 71).map (·.size) = some 2 by kernel_rfl)
  have mixed : Tryd.prog.follows .mixedOrders = true := by kernel_rfl
  go_enter Tryd.func67, Tryd.ntmps67
  go_wp2
  rw [Lib.run_to_unsafe w ⟨b, 0, none⟩ Tryd.underlying68 Tryd.underlying123 hj (by rw [hjs]; decide) hsh (Nat.zero_lt_succ 2)]
  simp only [Result.andThen]
  rw [Oper.upon_value]
  go_wp2
  rw [run_callFunc_extern Tryd.func90 (by kernel_rfl) (by kernel_rfl) (by kernel_rfl) (e := Extern.AbiNoEscape.same) (by kernel_rfl)]
  rw [Lib.run_noEscape]
  simp only [Result.andThen]
  rw [Oper.upon_value]
  go_wp2
  rw [Lib.run_from_unsafe w ⟨b, 0, none⟩ Tryd.underlying123 Tryd.underlying68 hj hsh (by kernel_rfl)]
  simp only [Result.andThen]
  rw [Oper.upon_value]
  go_wp2
  go_end0
  exact ⟨rfl, rfl⟩
set_option maxHeartbeats 1000000 in
set_option maxRecDepth 100000 in
theorem string_walk (b g cap : Nat) (l : List UInt8) (h0 : l ≠ []) (cur : Array Value) (w : World) (hc1 : w.cell? ⟨b, 1, none⟩ = some (.slice (some ⟨g, 0, none⟩) l.length cap)) (hg : w.heap[g]? = some (.cells cur 5 (0, 0)))
    (hn : l.length ≤ cap) (hcm : cap ≤ maxLen) (hcs : l.length ≤ cur.size) (hcell : ∀ j x, l[j]? = some x → w.cell? ((⟨g, 0, none⟩ : Addr).add j) = some (.int .u8 x.toNat)) :
    Calls Tryd.prog 46 #[.pointer (some ⟨b, 0, none⟩)] w fun e w' => e = .returned (.string ⟨l.toArray⟩) ∧ w' = w.drew.freeze ⟨g, 0, none⟩ l.length := by
  have hl0 : l.length ≠ 0 := by simpa using h0
  have c1 : w.drew.cell? ⟨b, 1, none⟩ = some (.slice (some ⟨g, 0, none⟩) l.length cap) := hc1
  have hSD : (Builtin.unsafeSliceData_ #[69] 107 #[.slice (some ⟨g, 0, none⟩) l.length cap]).run Tryd.prog w.drew = .ok (.pointer (some ⟨g, 0, none⟩)) w.drew :=
    Lib.run_unsafeSliceData_row _ _ _ _ _ _ (by omega)
  have hUS : (Builtin.unsafeString_ #[107, 3] 9 #[.pointer (some ⟨g, 0, none⟩), .int .i64 l.length]).run Tryd.prog w.drew = .ok (.string ⟨l.toArray⟩) (w.drew.freeze ⟨g, 0, none⟩ l.length) := by
    refine Lib.run_unsafeString_row w.drew 107 3 9 5 Tryd.underlying107 (by kernel_rfl) g cur.size (by have hg' : w.drew.heap[g]? = some (.cells cur 5 (0, 0)) := hg; simp [World.shape?, hg']) l h0 (by omega) (by unfold maxLen at hcm; omega) ?_
    intro j x hx
    exact hcell j x hx
  have mixed : Tryd.prog.follows .mixedOrders = true := by kernel_rfl
  go_enter Tryd.func46, Tryd.ntmps46
  go_wp2
  go_region_o
  all_goals (go_wp2; go_ret; exact ⟨rfl, rfl⟩)
end Go.Den
/- strconv.Itoa, strings.Builder. -/
namespace Go.Den
open Go.Proofs
set_option maxRecDepth 100000
def strconv_Itoa_v (n : Nat) (j0 : Int) : Option (ByteArray × Unit) :=
  match decide (-9223372036854775808 ≤ j0) && decide (j0 ≤ 9223372036854775807) with
  | true => some (⟨(Go.Lib.itoa j0).toArray⟩, ())
  | false => none
theorem strconv_Itoa_c (n : Nat) (j0 : Int) (y : ByteArray × Unit) (h : strconv_Itoa_v n j0 = some y) : Contract Tryd.prog 35 [AV.dv (DV.val (Value.int IntKind.i64 j0))] [] (OSh.enc (OSh.plain (.s) []) y) := by
  unfold strconv_Itoa_v at h
  split at h
  · rename_i hc
    cases h
    simp only [Bool.and_eq_true, decide_eq_true_eq] at hc
    exact itoa_contract ⟨Tryd.f35, Tryd.func35, by kernel_rfl, by decide⟩ (by kernel_rfl) (by kernel_rfl) j0 (fun w hw => Any.strconv_Itoa itoaLays j0 hc.1 hc.2 w hw)
  · cases h
theorem vt_only (t : TypeId) (h : vtOk Tryd.prog t = true) : t = 73 := only_of (fun _ => vt_lt) (by kernel_rfl) t h
theorem u8_only (t : TypeId) (h : u8Ok Tryd.prog t = true) : t = 5 := only_of (fun _ => u8_lt) (by kernel_rfl) t h
def strings_Builder_copyCheck_nilp_v (n : Nat) (b1 : Bool) (r2 : Rows) (b3 : Bool) : Option (Unit × (Unit × (Bool × Rows) × Bool × Unit) × Unit) :=
  match b1, r2 with
  | true, [] => some ((), (((), ((true, []), (b3, ()))), ()))
  | _, _ => none
theorem strings_Builder_copyCheck_nilp_c (n : Nat) (b1 : Bool) (r2 : Rows) (b3 : Bool) (y : Unit × (Unit × (Bool × Rows) × Bool × Unit) × Unit) (h : strings_Builder_copyCheck_nilp_v n b1 r2 b3 = some y) :
    Contract Tryd.prog 67 [AV.pl 1000 0] [[AV.dv (DV.val (Value.pointer none)), AV.sl b1 [Kd.i IntKind.u8] r2 (Right.tok 500002), AV.dv (DV.val (Value.bool b3))]] (OSh.enc (OSh.plain (.tup []) [[.pl 1000 0, .slt [Kd.i IntKind.u8] 1, .b]]) y) := by
  unfold strings_Builder_copyCheck_nilp_v at h
  split at h
  · cases h
    exact copyCheck_new ⟨Tryd.f67, Tryd.func67, by kernel_rfl, by decide⟩ vt_only copy_new 500002 b3
  · cases h
def strings_Builder_copyCheck_v (n : Nat) (b1 : Bool) (r2 : Rows) (b3 : Bool) : Option (Unit × (Unit × (Bool × Rows) × Bool × Unit) × Unit) := some ((), (((), ((b1, r2), (b3, ()))), ()))
theorem strings_Builder_copyCheck_c (n : Nat) (b1 : Bool) (r2 : Rows) (b3 : Bool) (y : Unit × (Unit × (Bool × Rows) × Bool × Unit) × Unit) (h : strings_Builder_copyCheck_v n b1 r2 b3 = some y) :
    Contract Tryd.prog 67 [AV.pl 1000 0] [[AV.pl 1000 0, AV.sl b1 [Kd.i IntKind.u8] r2 (Right.tok 500002), AV.dv (DV.val (Value.bool b3))]] (OSh.enc (OSh.plain (.tup []) [[.pl 1000 0, .slt [Kd.i IntKind.u8] 1, .b]]) y) := by
  cases h
  exact copyCheck_used ⟨Tryd.f67, Tryd.func67, by kernel_rfl, by decide⟩ copy_used 500002 b1 r2 b3
def strings_Builder_String_v (n : Nat) (b1 : Bool) (r2 : Rows) (b3 : Bool) : Option (ByteArray × (Unit × (Bool × Rows) × Bool × Unit) × Unit) :=
  match !r2.isEmpty && okBytes r2 with
  | true => some (bytesOf r2, (((), ((b1, r2), (b3, ()))), ()))
  | false => none
theorem strings_Builder_String_c (n : Nat) (b1 : Bool) (r2 : Rows) (b3 : Bool) (y : ByteArray × (Unit × (Bool × Rows) × Bool × Unit) × Unit) (h : strings_Builder_String_v n b1 r2 b3 = some y) :
    Contract Tryd.prog 46 [AV.pl 1000 0] [[AV.pl 1000 0, AV.sl b1 [Kd.i IntKind.u8] r2 (Right.tok 500002), AV.dv (DV.val (Value.bool b3))]] (OSh.enc (OSh.plain (.s) [[.pl 1000 0, .sl [Kd.i IntKind.u8], .b]]) y) := by
  unfold strings_Builder_String_v at h
  split at h
  · rename_i hc
    simp only [Bool.and_eq_true, Bool.not_eq_true'] at hc
    cases h
    exact string_contract ⟨Tryd.f46, Tryd.func46, by kernel_rfl, by decide⟩ u8_only string_walk 500002 b1 r2 b3 (fun h0 => by rw [h0] at hc; exact absurd hc.1 (by simp)) hc.2
  · cases h
end Go.Den
