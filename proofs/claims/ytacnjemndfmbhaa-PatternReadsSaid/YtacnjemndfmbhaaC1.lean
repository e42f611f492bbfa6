import Derived.Shelf.Strings.Builder1
import Derived.Shelf.Strings.Builder2
import Derived.Shelf.Small.Strs
import Derived.Shelf.Strings.BuilderF
import Derived.Shelf.Strings.BuilderK
import Derived.Shelf.Strings.Builder2Cap
import Derived.Shelf.Strings.Search1
import Derived.Shelf.Strings.Search2
import Derived.Shelf.Strings.Search3
import Derived.Shelf.LaysM
import Derived.Shelf.Strings.Shaped
import Derived.Shelf.Strings.Prefix
import Derived.Shelf.Bits.Mul64
import Derived.Shelf.Strings.Repeat
import Derived.Shelf.Strings.BuilderCap
import Derived.Test.YtacnjemndfmbhaaProg
section
namespace Go.Proofs
open Go.Shelf
def Try.lays169_ren : Go.Shelf.Ren := ⟨fun | 169 => 78 | n => n, fun | 70 => 87 | 9 => 9 | 0 => 0 | 72 => 90 | 37 => 88 | 127 => 105 | 3 => 3 | 5 => 5 | n => n, fun | n => n⟩
theorem Try.lays169 : Go.Proofs.Lays.n169 Try.prog Try.lays169_ren := {
 mixed := by kernel_rfl
 f169 := Try.func78.trans (congrArg some (by kernel_rfl))
 t0 := Try.underlying0
 a0 := Try.isAgg0
 z0 := Try.sizeOf0
 v0 := Try.zeroValue0
 t3 := Try.underlying3
 a3 := Try.isAgg3
 z3 := Try.sizeOf3
 v3 := Try.zeroValue3
 t9 := Try.underlying9
 a9 := Try.isAgg9
 z9 := Try.sizeOf9
 v9 := Try.zeroValue9
 t37 := Try.underlying88
 a37 := Try.isAgg88
 z37 := Try.sizeOf88
 v37 := Try.zeroValue88
 t70 := Try.underlying87
 a70 := Try.isAgg87
 z70 := Try.sizeOf87
 v70 := Try.zeroValue87
 t72 := Try.underlying90
 a72 := Try.isAgg90
 z72 := Try.sizeOf90
 v72 := Try.zeroValue90
 t127 := Try.underlying105
 a127 := Try.isAgg105
 z127 := Try.sizeOf105
 v127 := Try.zeroValue105 }
theorem Try.Builder_Extra_169 : Builder.Extra Try.prog Try.lays169_ren := {
 sizeBuilder := by kernel_rfl
 liesBuilder := by kernel_rfl
 t5 := Try.underlying5
 a5 := Try.isAgg5
 z5 := Try.sizeOf5
 v5 := Try.zeroValue5
 infoByte := by kernel_rfl
 cellsByte := by kernel_rfl
 sizeByte := by kernel_rfl
 neB5 := by decide }
open Go.RowKit in
theorem Try.Builder_String_any (B b : Nat) (l : List UInt8) (w : World) (h : Lib.IsBuilder 90 5 B b (Lib.byteCells l) w) (hBw : B ≤ w.heap.size) :
  Calls Try.prog 78 #[.pointer (some ⟨b, 0, none⟩)] w fun e w' => e = .returned (.string ⟨l.toArray⟩) ∧ Below B w w' := Any.Builder_String_any Try.lays169 Try.Builder_Extra_169 B b l w h hBw
def Try.lays137_ren : Go.Shelf.Ren := ⟨fun | 137 => 84 | 217 => 95 | 266 => 104 | n => n, fun | 9 => 9 | 5 => 5 | 3 => 3 | n => n, fun | n => n⟩
theorem Try.lays137 : Go.Proofs.Lays.n137 Try.prog Try.lays137_ren := {
 mixed := by kernel_rfl
 f137 := Try.func84.trans (congrArg some (by kernel_rfl))
 f217 := Try.func95.trans (congrArg some (by kernel_rfl))
 f266 := Try.func104.trans (congrArg some (by kernel_rfl))
 t3 := Try.underlying3
 a3 := Try.isAgg3
 z3 := Try.sizeOf3
 v3 := Try.zeroValue3
 t5 := Try.underlying5
 a5 := Try.isAgg5
 z5 := Try.sizeOf5
 v5 := Try.zeroValue5
 t9 := Try.underlying9
 a9 := Try.isAgg9
 z9 := Try.sizeOf9
 v9 := Try.zeroValue9 }
open Go.RowKit in
theorem Try.strings_IndexByte (s : ByteArray) (c : Int) (w : World) :
  Calls Try.prog 84 #[.string s, .int .u8 c] w fun e w' => e = .returned (.int .i64 (Lib.indexByte s.data.toList c.toNat.toUInt8)) ∧ w' = w := Any.strings_IndexByte Try.lays137 s c w
def Try.lays144_ren : Go.Shelf.Ren := ⟨fun | 144 => 99 | 143 => 105 | 219 => 107 | 217 => 95 | 225 => 108 | 224 => 109 | 267 => 110 | 266 => 104 | 314 => 111 | n => n, fun | 9 => 9 | 4 => 4 | 3 => 3 | 5 => 5 | 46 => 100 | 146 => 110 | 51 => 109 | n => n, fun | 1 => 0 | n => n⟩
theorem Try.lays144 : Go.Proofs.Lays.n144 Try.prog Try.lays144_ren := {
 mixed := by kernel_rfl
 f143 := Try.func105.trans (congrArg some (by kernel_rfl))
 f144 := Try.func99.trans (congrArg some (by kernel_rfl))
 f217 := Try.func95.trans (congrArg some (by kernel_rfl))
 f219 := Try.func107.trans (congrArg some (by kernel_rfl))
 f224 := Try.func109.trans (congrArg some (by kernel_rfl))
 f225 := Try.func108.trans (congrArg some (by kernel_rfl))
 f266 := Try.func104.trans (congrArg some (by kernel_rfl))
 f267 := Try.func110.trans (congrArg some (by kernel_rfl))
 f314 := Try.func111.trans (congrArg some (by kernel_rfl))
 t3 := Try.underlying3
 a3 := Try.isAgg3
 z3 := Try.sizeOf3
 v3 := Try.zeroValue3
 t4 := Try.underlying4
 a4 := Try.isAgg4
 z4 := Try.sizeOf4
 v4 := Try.zeroValue4
 t5 := Try.underlying5
 a5 := Try.isAgg5
 z5 := Try.sizeOf5
 v5 := Try.zeroValue5
 t9 := Try.underlying9
 a9 := Try.isAgg9
 z9 := Try.sizeOf9
 v9 := Try.zeroValue9
 t46 := Try.underlying100
 a46 := Try.isAgg100
 z46 := Try.sizeOf100
 v46 := Try.zeroValue100
 t51 := Try.underlying109
 a51 := Try.isAgg109
 z51 := Try.sizeOf109
 v51 := Try.zeroValue109
 t146 := Try.underlying110
 a146 := Try.isAgg110
 z146 := Try.sizeOf110
 v146 := Try.zeroValue110
 g1 := by kernel_rfl }
open Go.RowKit Go.Lib in
theorem Try.strings_Contains (s sub : ByteArray) (m : Int) (w : World) (hs : s.size < 4294967281) (hm : w.cell? ⟨0, 0, none⟩ = some (.int .i64 m)) :
  Calls Try.prog 99 #[.string s, .string sub] w fun e w' => e = .returned (.bool (Lib.contains s.data.toList sub.data.toList)) ∧ w' = w := Any.strings_Contains Try.lays144 s sub m w hs hm
def Try.lays99_ren : Go.Shelf.Ren := ⟨fun | 99 => 67 | 206 => 86 | n => n, fun | 9 => 9 | 4 => 4 | 3 => 3 | n => n, fun | n => n⟩
theorem Try.lays99 : Go.Proofs.Lays.n99 Try.prog Try.lays99_ren := {
 mixed := by kernel_rfl
 f99 := Try.func67.trans (congrArg some (by kernel_rfl))
 f206 := Try.func86.trans (congrArg some (by kernel_rfl))
 t3 := Try.underlying3
 a3 := Try.isAgg3
 z3 := Try.sizeOf3
 v3 := Try.zeroValue3
 t4 := Try.underlying4
 a4 := Try.isAgg4
 z4 := Try.sizeOf4
 v4 := Try.zeroValue4
 t9 := Try.underlying9
 a9 := Try.isAgg9
 z9 := Try.sizeOf9
 v9 := Try.zeroValue9 }
open Go.RowKit Go.Lib in
theorem Try.strings_HasPrefix (s p : ByteArray) (w : World) :
  Calls Try.prog 67 #[.string s, .string p] w fun e w' => e = .returned (.bool (Lib.hasPrefix s.data.toList p.data.toList)) ∧ w' = w := Any.strings_HasPrefix Try.lays99 s p w
def Try.lays105_ren : Go.Shelf.Ren := ⟨fun | 105 => 76 | 212 => 91 | 99 => 67 | 165 => 92 | 166 => 77 | 170 => 93 | 169 => 78 | 263 => 100 | 264 => 101 | 206 => 86 | 240 => 94 | 241 => 102 | 276 => 103 | 277 => 106 | n => n, fun | 9 => 9 | 3 => 3 | 4 => 4 | 20 => 20 | 0 => 0 | 46 => 100 | 109 => 101 | 5 => 5 | 72 => 90 | 76 => 93 | 51 => 109 | 146 => 110 | 53 => 112 | 148 => 113 | 70 => 87 | 37 => 88 | 75 => 92 | 127 => 105 | 164 => 115 | 80 => 95 | n => n, fun | n => n⟩
theorem Try.lays105 : Go.Proofs.Lays.n105 Try.prog Try.lays105_ren := {
 mixed := by kernel_rfl
 f99 := Try.func67.trans (congrArg some (by kernel_rfl))
 f105 := Try.func76.trans (congrArg some (by kernel_rfl))
 f165 := Try.func92.trans (congrArg some (by kernel_rfl))
 f166 := Try.func77.trans (congrArg some (by kernel_rfl))
 f169 := Try.func78.trans (congrArg some (by kernel_rfl))
 f170 := Try.func93.trans (congrArg some (by kernel_rfl))
 f206 := Try.func86.trans (congrArg some (by kernel_rfl))
 f212 := Try.func91.trans (congrArg some (by kernel_rfl))
 f240 := Try.func94.trans (congrArg some (by kernel_rfl))
 f241 := Try.func102.trans (congrArg some (by kernel_rfl))
 f263 := Try.func100.trans (congrArg some (by kernel_rfl))
 f264 := Try.func101.trans (congrArg some (by kernel_rfl))
 f276 := Try.func103.trans (congrArg some (by kernel_rfl))
 f277 := Try.func106.trans (congrArg some (by kernel_rfl))
 t0 := Try.underlying0
 a0 := Try.isAgg0
 z0 := Try.sizeOf0
 v0 := Try.zeroValue0
 t3 := Try.underlying3
 a3 := Try.isAgg3
 z3 := Try.sizeOf3
 v3 := Try.zeroValue3
 t4 := Try.underlying4
 a4 := Try.isAgg4
 z4 := Try.sizeOf4
 v4 := Try.zeroValue4
 t5 := Try.underlying5
 a5 := Try.isAgg5
 z5 := Try.sizeOf5
 v5 := Try.zeroValue5
 t9 := Try.underlying9
 a9 := Try.isAgg9
 z9 := Try.sizeOf9
 v9 := Try.zeroValue9
 t20 := Try.underlying20
 a20 := Try.isAgg20
 z20 := Try.sizeOf20
 v20 := Try.zeroValue20
 t37 := Try.underlying88
 a37 := Try.isAgg88
 z37 := Try.sizeOf88
 v37 := Try.zeroValue88
 t46 := Try.underlying100
 a46 := Try.isAgg100
 z46 := Try.sizeOf100
 v46 := Try.zeroValue100
 t51 := Try.underlying109
 a51 := Try.isAgg109
 z51 := Try.sizeOf109
 v51 := Try.zeroValue109
 t53 := Try.underlying112
 a53 := Try.isAgg112
 z53 := Try.sizeOf112
 v53 := Try.zeroValue112
 t70 := Try.underlying87
 a70 := Try.isAgg87
 z70 := Try.sizeOf87
 v70 := Try.zeroValue87
 t72 := Try.underlying90
 a72 := Try.isAgg90
 z72 := Try.sizeOf90
 v72 := Try.zeroValue90
 t75 := Try.underlying92
 a75 := Try.isAgg92
 z75 := Try.sizeOf92
 v75 := Try.zeroValue92
 t76 := Try.underlying93
 a76 := Try.isAgg93
 z76 := Try.sizeOf93
 v76 := Try.zeroValue93
 t109 := Try.underlying101
 a109 := Try.isAgg101
 z109 := Try.sizeOf101
 v109 := Try.zeroValue101
 t127 := Try.underlying105
 a127 := Try.isAgg105
 z127 := Try.sizeOf105
 v127 := Try.zeroValue105
 t146 := Try.underlying110
 a146 := Try.isAgg110
 z146 := Try.sizeOf110
 v146 := Try.zeroValue110
 t148 := Try.underlying113
 a148 := Try.isAgg113
 z148 := Try.sizeOf113
 v148 := Try.zeroValue113
 t164 := Try.underlying115
 a164 := Try.isAgg115
 z164 := Try.sizeOf115
 v164 := Try.zeroValue115 }
theorem Try.Builder_Extra_105 : Builder.Extra Try.prog Try.lays105_ren := {
 sizeBuilder := by kernel_rfl
 liesBuilder := by kernel_rfl
 t5 := Try.underlying5
 a5 := Try.isAgg5
 z5 := Try.sizeOf5
 v5 := Try.zeroValue5
 infoByte := by kernel_rfl
 cellsByte := by kernel_rfl
 sizeByte := by kernel_rfl
 neB5 := by decide }
open Go.RowKit Go.Lib in
theorem Try.strings_Repeat (s : ByteArray) (c : Nat) (w : World) (hc : c ≤ 9223372036854775807) (hlen : s.size * c ≤ 140737488355328) :
  Calls Try.prog 76 #[.string s, .int .i64 c] w fun e w' => e = .returned (.string ⟨(Lib.repeatL s.data.toList c).toArray⟩) ∧ Below w.heap.size w w' := Any.strings_Repeat Try.lays105 Try.Builder_Extra_105 s c w hc hlen
end Go.Proofs
end
