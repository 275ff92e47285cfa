import Derived.Shelf.SlIter.Nil
import Derived.Shelf.SortM.Plain
import Derived.Shelf.SortM.SortNone
import Derived.Ground.GgzProg
import Derived.Ground.SlgmProg
import Derived.Shelf.Strings.SlTrimAscii
import Derived.Shelf.Strings.Builder1
import Derived.Shelf.Strings.Builder2
import Derived.Shelf.Strings.OnBuilder
import Derived.Shelf.Strings.Trim
import Derived.Shelf.Small.Utf8
import Derived.Shelf.Small.Bits
import Derived.Shelf.Small.Strs
import Derived.Shelf.Small.Wraps
import Derived.Shelf.Strings.BuilderF
import Derived.Shelf.Strings.BuilderK
import Derived.Shelf.Strings.BuilderRune
import Derived.Shelf.Utf8.AppendRune
import Derived.Shelf.Utf8.AppendRunePlain
import Derived.Shelf.Strings.Builder2Cap
import Derived.Shelf.Strconv.Itoa0
import Derived.Shelf.Strconv.Itoa1
import Derived.Shelf.LaysM
import Derived.Shelf.Strconv.Itoa2
import Derived.Shelf.Strconv.Itoa3
import Derived.Shelf.Strconv.Clone
import Derived.Shelf.Strings.Search1
import Derived.Shelf.Sort.Plain
import Derived.Shelf.Strings.Prefix
import Derived.Shelf.Unicode.Latin
import Derived.Shelf.Unicode.Decode
import Derived.Shelf.Strings.Runes
import Derived.Shelf.Strings.IndexAny
import Derived.Shelf.Strings.AsciiSet
import Derived.Shelf.Strings.IndexAnyAll
import Derived.Shelf.Unicode.DecodeSlow
import Derived.Shelf.Unicode.DecodeAny
import Derived.Shelf.Unicode.DecodeLast
import Derived.Shelf.Unicode.CaseLookup
import Derived.Shelf.Unicode.CaseConvert
import Derived.Shelf.Unicode.CaseTo
import Derived.Shelf.Unicode.CaseLaid
import Derived.Shelf.Strings.MapAny
import Derived.Shelf.Strings.CaseAny
import Derived.Shelf.Strings.BuilderCap
import Derived.Shelf.Strings.MapGrows
import Derived.Shelf.Slices.Turned
import Derived.Shelf.Slices.Equal
import Derived.Ground.Names2Prog
import Derived.Shelf.Slices.Clone
import Derived.Shelf.Slices.In.SortNone
import Derived.Shelf.Slices.Empties2
import Derived.Ground.SlgnProg
import Derived.Shelf.SlicesE.Clone
import Derived.Test.YtdghfenbfbdijaaGreatDoorProg
namespace Go.Proofs
open Go.Shelf
def Tryz.lays159_ren : Go.Shelf.Ren := ⟨fun | 159 => 118 | 165 => 156 | 166 => 157 | 167 => 158 | 169 => 159 | 230 => 160 | 204 => 161 | 240 => 192 | 241 => 193 | 197 => 163 | 118 => 194 | 168 => 195 | 270 => 196 | 262 => 197 | 276 => 219 | 277 => 220 | 260 => 198 | 242 => 221 | 313 => 222 | 278 => 228 | 274 => 229 | 275 => 230 | n => n,fun | 9 => 9 | 4 => 4 | 3 => 3 | 5 => 5 | 72 => 259 | 0 => 0 | 76 => 235 | 75 => 234 | 107 => 264 | 70 => 256 | 20 => 20 | 37 => 257 | 127 => 294 | 21 => 21 | 105 => 265 | 164 => 315 | 162 => 321 | 203 => 319 | 119 => 322 | 46 => 243 | 139 => 325 | 138 => 324 | 51 => 280 | 160 => 335 | 208 => 345 | 206 => 343 | 80 => 262 | n => n,fun | 13 => 0 | 3 => 1 | 4 => 2 | n => n⟩
theorem Tryz.lays159 : Go.Proofs.Lays.n159 Tryz.prog Tryz.lays159_ren := {
 mixed := by kernel_rfl
 f118 := Tryz.func194.trans (congrArg some (by kernel_rfl))
 f159 := Tryz.func118.trans (congrArg some (by kernel_rfl))
 f165 := Tryz.func156.trans (congrArg some (by kernel_rfl))
 f166 := Tryz.func157.trans (congrArg some (by kernel_rfl))
 f167 := Tryz.func158.trans (congrArg some (by kernel_rfl))
 f168 := Tryz.func195.trans (congrArg some (by kernel_rfl))
 f169 := Tryz.func159.trans (congrArg some (by kernel_rfl))
 f197 := Tryz.func163.trans (congrArg some (by kernel_rfl))
 f204 := Tryz.func161.trans (congrArg some (by kernel_rfl))
 f230 := Tryz.func160.trans (congrArg some (by kernel_rfl))
 f240 := Tryz.func192.trans (congrArg some (by kernel_rfl))
 f241 := Tryz.func193.trans (congrArg some (by kernel_rfl))
 f242 := Tryz.func221.trans (congrArg some (by kernel_rfl))
 f260 := Tryz.func198.trans (congrArg some (by kernel_rfl))
 f262 := Tryz.func197.trans (congrArg some (by kernel_rfl))
 f270 := Tryz.func196.trans (congrArg some (by kernel_rfl))
 f274 := Tryz.func229.trans (congrArg some (by kernel_rfl))
 f275 := Tryz.func230.trans (congrArg some (by kernel_rfl))
 f276 := Tryz.func219.trans (congrArg some (by kernel_rfl))
 f277 := Tryz.func220.trans (congrArg some (by kernel_rfl))
 f278 := Tryz.func228.trans (congrArg some (by kernel_rfl))
 f313 := Tryz.func222.trans (congrArg some (by kernel_rfl))
 t0 := Tryz.underlying0
 a0 := Tryz.isAgg0
 z0 := Tryz.sizeOf0
 v0 := Tryz.zeroValue0
 t3 := Tryz.underlying3
 a3 := Tryz.isAgg3
 z3 := Tryz.sizeOf3
 v3 := Tryz.zeroValue3
 t4 := Tryz.underlying4
 a4 := Tryz.isAgg4
 z4 := Tryz.sizeOf4
 v4 := Tryz.zeroValue4
 t5 := Tryz.underlying5
 a5 := Tryz.isAgg5
 z5 := Tryz.sizeOf5
 v5 := Tryz.zeroValue5
 t9 := Tryz.underlying9
 a9 := Tryz.isAgg9
 z9 := Tryz.sizeOf9
 v9 := Tryz.zeroValue9
 t20 := Tryz.underlying20
 a20 := Tryz.isAgg20
 z20 := Tryz.sizeOf20
 v20 := Tryz.zeroValue20
 t21 := Tryz.underlying21
 a21 := Tryz.isAgg21
 z21 := Tryz.sizeOf21
 v21 := Tryz.zeroValue21
 t37 := Tryz.underlying257
 a37 := Tryz.isAgg257
 z37 := Tryz.sizeOf257
 v37 := Tryz.zeroValue257
 t46 := Tryz.underlying243
 a46 := Tryz.isAgg243
 z46 := Tryz.sizeOf243
 v46 := Tryz.zeroValue243
 t51 := Tryz.underlying280
 a51 := Tryz.isAgg280
 z51 := Tryz.sizeOf280
 v51 := Tryz.zeroValue280
 t70 := Tryz.underlying256
 a70 := Tryz.isAgg256
 z70 := Tryz.sizeOf256
 v70 := Tryz.zeroValue256
 t72 := Tryz.underlying259
 a72 := Tryz.isAgg259
 z72 := Tryz.sizeOf259
 v72 := Tryz.zeroValue259
 t75 := Tryz.underlying234
 a75 := Tryz.isAgg234
 z75 := Tryz.sizeOf234
 v75 := Tryz.zeroValue234
 t76 := Tryz.underlying235
 a76 := Tryz.isAgg235
 z76 := Tryz.sizeOf235
 v76 := Tryz.zeroValue235
 t105 := Tryz.underlying265
 a105 := Tryz.isAgg265
 z105 := Tryz.sizeOf265
 v105 := Tryz.zeroValue265
 t107 := Tryz.underlying264
 a107 := Tryz.isAgg264
 z107 := Tryz.sizeOf264
 v107 := Tryz.zeroValue264
 t119 := Tryz.underlying322
 a119 := Tryz.isAgg322
 z119 := Tryz.sizeOf322
 t127 := Tryz.underlying294
 a127 := Tryz.isAgg294
 z127 := Tryz.sizeOf294
 v127 := Tryz.zeroValue294
 t138 := Tryz.underlying324
 a138 := Tryz.isAgg324
 z138 := Tryz.sizeOf324
 v138 := Tryz.zeroValue324
 t139 := Tryz.underlying325
 a139 := Tryz.isAgg325
 z139 := Tryz.sizeOf325
 v139 := Tryz.zeroValue325
 t160 := Tryz.underlying335
 a160 := Tryz.isAgg335
 z160 := Tryz.sizeOf335
 v160 := Tryz.zeroValue335
 t162 := Tryz.underlying321
 a162 := Tryz.isAgg321
 z162 := Tryz.sizeOf321
 v162 := Tryz.zeroValue321
 t164 := Tryz.underlying315
 a164 := Tryz.isAgg315
 z164 := Tryz.sizeOf315
 v164 := Tryz.zeroValue315
 t203 := Tryz.underlying319
 a203 := Tryz.isAgg319
 z203 := Tryz.sizeOf319
 v203 := Tryz.zeroValue319
 t206 := Tryz.underlying343
 a206 := Tryz.isAgg343
 z206 := Tryz.sizeOf343
 v206 := Tryz.zeroValue343
 t208 := Tryz.underlying345
 a208 := Tryz.isAgg345
 z208 := Tryz.sizeOf345
 v208 := Tryz.zeroValue345
 g3 := by kernel_rfl
 g4 := by kernel_rfl
 g13 := by kernel_rfl }
theorem Tryz.Builder_Extra_159 : Builder.Extra Tryz.prog Tryz.lays159_ren := {
 sizeBuilder := by kernel_rfl
 liesBuilder := by kernel_rfl
 t5 := Tryz.underlying5
 a5 := Tryz.isAgg5
 z5 := Tryz.sizeOf5
 v5 := Tryz.zeroValue5
 infoByte := by kernel_rfl
 cellsByte := by kernel_rfl
 sizeByte := by kernel_rfl
 neB5 := by decide }
def Tryz.lays156_ren : Go.Shelf.Ren := ⟨fun | 156 => 147 | 165 => 156 | 166 => 157 | 169 => 159 | 240 => 192 | 241 => 193 | 276 => 219 | 277 => 220 | n => n,fun | 31 => 27 | 9 => 9 | 3 => 3 | 4 => 4 | 0 => 0 | 20 => 20 | 72 => 259 | 76 => 235 | 70 => 256 | 37 => 257 | 75 => 234 | 127 => 294 | 164 => 315 | 5 => 5 | 80 => 262 | n => n,fun | n => n⟩
theorem Tryz.lays156 : Go.Proofs.Lays.n156 Tryz.prog Tryz.lays156_ren := {
 mixed := by kernel_rfl
 f156 := Tryz.func147.trans (congrArg some (by kernel_rfl))
 f165 := Tryz.func156.trans (congrArg some (by kernel_rfl))
 f166 := Tryz.func157.trans (congrArg some (by kernel_rfl))
 f169 := Tryz.func159.trans (congrArg some (by kernel_rfl))
 f240 := Tryz.func192.trans (congrArg some (by kernel_rfl))
 f241 := Tryz.func193.trans (congrArg some (by kernel_rfl))
 f276 := Tryz.func219.trans (congrArg some (by kernel_rfl))
 f277 := Tryz.func220.trans (congrArg some (by kernel_rfl))
 t0 := Tryz.underlying0
 a0 := Tryz.isAgg0
 z0 := Tryz.sizeOf0
 v0 := Tryz.zeroValue0
 t3 := Tryz.underlying3
 a3 := Tryz.isAgg3
 z3 := Tryz.sizeOf3
 v3 := Tryz.zeroValue3
 t4 := Tryz.underlying4
 a4 := Tryz.isAgg4
 z4 := Tryz.sizeOf4
 v4 := Tryz.zeroValue4
 t9 := Tryz.underlying9
 a9 := Tryz.isAgg9
 z9 := Tryz.sizeOf9
 v9 := Tryz.zeroValue9
 t20 := Tryz.underlying20
 a20 := Tryz.isAgg20
 z20 := Tryz.sizeOf20
 v20 := Tryz.zeroValue20
 t31 := Tryz.underlying27
 a31 := Tryz.isAgg27
 z31 := Tryz.sizeOf27
 v31 := Tryz.zeroValue27
 t37 := Tryz.underlying257
 a37 := Tryz.isAgg257
 z37 := Tryz.sizeOf257
 v37 := Tryz.zeroValue257
 t70 := Tryz.underlying256
 a70 := Tryz.isAgg256
 z70 := Tryz.sizeOf256
 v70 := Tryz.zeroValue256
 t72 := Tryz.underlying259
 a72 := Tryz.isAgg259
 z72 := Tryz.sizeOf259
 v72 := Tryz.zeroValue259
 t75 := Tryz.underlying234
 a75 := Tryz.isAgg234
 z75 := Tryz.sizeOf234
 v75 := Tryz.zeroValue234
 t76 := Tryz.underlying235
 a76 := Tryz.isAgg235
 z76 := Tryz.sizeOf235
 v76 := Tryz.zeroValue235
 t127 := Tryz.underlying294
 a127 := Tryz.isAgg294
 z127 := Tryz.sizeOf294
 v127 := Tryz.zeroValue294
 t164 := Tryz.underlying315
 a164 := Tryz.isAgg315
 z164 := Tryz.sizeOf315
 v164 := Tryz.zeroValue315 }
theorem Tryz.Builder_Extra_156 : Builder.Extra Tryz.prog Tryz.lays156_ren := {
 sizeBuilder := by kernel_rfl
 liesBuilder := by kernel_rfl
 t5 := Tryz.underlying5
 a5 := Tryz.isAgg5
 z5 := Tryz.sizeOf5
 v5 := Tryz.zeroValue5
 infoByte := by kernel_rfl
 cellsByte := by kernel_rfl
 sizeByte := by kernel_rfl
 neB5 := by decide }
open Go.RowKit in
theorem Tryz.strings_Join (bk o c : Nat) (xs : List ByteArray) (sep : ByteArray) (w : World) (hcells : ∀ (j : Nat) x,xs[j]? = some x → w.cell? ⟨bk,o + j,none⟩ = some (.string x)) (hbk : bk < w.heap.size) (hN : xs.length ≤ 140737488355328) (hcap : xs.length ≤ c) (hlen : (Lib.join (xs.map (·.data.toList)) sep.data.toList).length ≤ 140737488355328) :
  Calls Tryz.prog 147 #[.slice (some ⟨bk,o,none⟩) xs.length c,.string sep] w fun e w' => e = .returned (.string ⟨(Lib.join (xs.map (·.data.toList)) sep.data.toList).toArray⟩) ∧ Below w.heap.size w w' := Any.strings_Join Tryz.lays156 Tryz.Builder_Extra_156 bk o c xs sep w hcells hbk hN hcap hlen
def Tryz.lays160_ren : Go.Shelf.Ren := ⟨fun | 160 => 83 | 232 => 120 | 231 => 119 | 227 => 121 | 234 => 123 | 233 => 122 | 236 => 125 | 235 => 124 | 228 => 162 | 271 => 165 | 151 => 164 | 197 => 163 | 120 => 199 | 152 => 170 | 260 => 198 | 137 => 131 | 119 => 207 | 224 => 208 | 225 => 209 | 217 => 167 | 266 => 201 | n => n,fun | 9 => 9 | 4 => 4 | 3 => 3 | 5 => 5 | 117 => 224 | 116 => 223 | 0 => 0 | 124 => 227 | 21 => 21 | 105 => 265 | 46 => 243 | 119 => 322 | 139 => 325 | 138 => 324 | n => n,fun | 3 => 1 | 4 => 2 | n => n⟩
theorem Tryz.lays160 : Go.Proofs.Lays.n160 Tryz.prog Tryz.lays160_ren := {
 mixed := by kernel_rfl
 f119 := Tryz.func207.trans (congrArg some (by kernel_rfl))
 f120 := Tryz.func199.trans (congrArg some (by kernel_rfl))
 f137 := Tryz.func131.trans (congrArg some (by kernel_rfl))
 f151 := Tryz.func164.trans (congrArg some (by kernel_rfl))
 f152 := Tryz.func170.trans (congrArg some (by kernel_rfl))
 f160 := Tryz.func83.trans (congrArg some (by kernel_rfl))
 f197 := Tryz.func163.trans (congrArg some (by kernel_rfl))
 f217 := Tryz.func167.trans (congrArg some (by kernel_rfl))
 f224 := Tryz.func208.trans (congrArg some (by kernel_rfl))
 f225 := Tryz.func209.trans (congrArg some (by kernel_rfl))
 f227 := Tryz.func121.trans (congrArg some (by kernel_rfl))
 f228 := Tryz.func162.trans (congrArg some (by kernel_rfl))
 f231 := Tryz.func119.trans (congrArg some (by kernel_rfl))
 f232 := Tryz.func120.trans (congrArg some (by kernel_rfl))
 f233 := Tryz.func122.trans (congrArg some (by kernel_rfl))
 f234 := Tryz.func123.trans (congrArg some (by kernel_rfl))
 f235 := Tryz.func124.trans (congrArg some (by kernel_rfl))
 f236 := Tryz.func125.trans (congrArg some (by kernel_rfl))
 f260 := Tryz.func198.trans (congrArg some (by kernel_rfl))
 f266 := Tryz.func201.trans (congrArg some (by kernel_rfl))
 f271 := Tryz.func165.trans (congrArg some (by kernel_rfl))
 t0 := Tryz.underlying0
 a0 := Tryz.isAgg0
 z0 := Tryz.sizeOf0
 v0 := Tryz.zeroValue0
 t3 := Tryz.underlying3
 a3 := Tryz.isAgg3
 z3 := Tryz.sizeOf3
 v3 := Tryz.zeroValue3
 t4 := Tryz.underlying4
 a4 := Tryz.isAgg4
 z4 := Tryz.sizeOf4
 v4 := Tryz.zeroValue4
 t5 := Tryz.underlying5
 a5 := Tryz.isAgg5
 z5 := Tryz.sizeOf5
 v5 := Tryz.zeroValue5
 t9 := Tryz.underlying9
 a9 := Tryz.isAgg9
 z9 := Tryz.sizeOf9
 v9 := Tryz.zeroValue9
 t21 := Tryz.underlying21
 a21 := Tryz.isAgg21
 z21 := Tryz.sizeOf21
 v21 := Tryz.zeroValue21
 t46 := Tryz.underlying243
 a46 := Tryz.isAgg243
 z46 := Tryz.sizeOf243
 v46 := Tryz.zeroValue243
 t105 := Tryz.underlying265
 a105 := Tryz.isAgg265
 z105 := Tryz.sizeOf265
 v105 := Tryz.zeroValue265
 t116 := Tryz.underlying223
 a116 := Tryz.isAgg223
 z116 := Tryz.sizeOf223
 t117 := Tryz.underlying224
 a117 := Tryz.isAgg224
 z117 := Tryz.sizeOf224
 v117 := Tryz.zeroValue224
 t119 := Tryz.underlying322
 a119 := Tryz.isAgg322
 z119 := Tryz.sizeOf322
 t124 := Tryz.underlying227
 a124 := Tryz.isAgg227
 z124 := Tryz.sizeOf227
 v124 := Tryz.zeroValue227
 t138 := Tryz.underlying324
 a138 := Tryz.isAgg324
 z138 := Tryz.sizeOf324
 v138 := Tryz.zeroValue324
 t139 := Tryz.underlying325
 a139 := Tryz.isAgg325
 z139 := Tryz.sizeOf325
 v139 := Tryz.zeroValue325
 g3 := by kernel_rfl
 g4 := by kernel_rfl }
def Tryz.lays119_ren : Go.Shelf.Ren := ⟨fun | 119 => 207 | n => n,fun | 21 => 21 | 4 => 4 | n => n,fun | n => n⟩
theorem Tryz.lays119 : Go.Proofs.Lays.n119 Tryz.prog Tryz.lays119_ren := {
 mixed := by kernel_rfl
 f119 := Tryz.func207.trans (congrArg some (by kernel_rfl))
 t4 := Tryz.underlying4
 a4 := Tryz.isAgg4
 z4 := Tryz.sizeOf4
 v4 := Tryz.zeroValue4
 t21 := Tryz.underlying21
 a21 := Tryz.isAgg21
 z21 := Tryz.sizeOf21
 v21 := Tryz.zeroValue21 }
theorem Tryz.utf8_ValidRune (r : Int) (w : World) :
  Calls Tryz.prog 207 #[.int .i32 r] w fun e w' => e = .returned (.bool (Lib.validRune r)) ∧ w' = w := Any.utf8_ValidRune Tryz.lays119 r w
def Tryz.lays137_ren : Go.Shelf.Ren := ⟨fun | 137 => 131 | 217 => 167 | 266 => 201 | n => n,fun | 9 => 9 | 5 => 5 | 3 => 3 | n => n,fun | n => n⟩
theorem Tryz.lays137 : Go.Proofs.Lays.n137 Tryz.prog Tryz.lays137_ren := {
 mixed := by kernel_rfl
 f137 := Tryz.func131.trans (congrArg some (by kernel_rfl))
 f217 := Tryz.func167.trans (congrArg some (by kernel_rfl))
 f266 := Tryz.func201.trans (congrArg some (by kernel_rfl))
 t3 := Tryz.underlying3
 a3 := Tryz.isAgg3
 z3 := Tryz.sizeOf3
 v3 := Tryz.zeroValue3
 t5 := Tryz.underlying5
 a5 := Tryz.isAgg5
 z5 := Tryz.sizeOf5
 v5 := Tryz.zeroValue5
 t9 := Tryz.underlying9
 a9 := Tryz.isAgg9
 z9 := Tryz.sizeOf9
 v9 := Tryz.zeroValue9 }
open Go.RowKit in
theorem Tryz.strings_IndexByte (s : ByteArray) (c : Int) (w : World) :
  Calls Tryz.prog 131 #[.string s,.int .u8 c] w fun e w' => e = .returned (.int .i64 (Lib.indexByte s.data.toList c.toNat.toUInt8)) ∧ w' = w := Any.strings_IndexByte Tryz.lays137 s c w
def Tryz.lays103_ren : Go.Shelf.Ren := ⟨fun | 103 => 153 | 210 => 190 | 206 => 172 | n => n,fun | 9 => 9 | 4 => 4 | 24 => 253 | 3 => 3 | n => n,fun | n => n⟩
theorem Tryz.lays103 : Go.Proofs.Lays.n103 Tryz.prog Tryz.lays103_ren := {
 mixed := by kernel_rfl
 f103 := Tryz.func153.trans (congrArg some (by kernel_rfl))
 f206 := Tryz.func172.trans (congrArg some (by kernel_rfl))
 f210 := Tryz.func190.trans (congrArg some (by kernel_rfl))
 t3 := Tryz.underlying3
 a3 := Tryz.isAgg3
 z3 := Tryz.sizeOf3
 v3 := Tryz.zeroValue3
 t4 := Tryz.underlying4
 a4 := Tryz.isAgg4
 z4 := Tryz.sizeOf4
 v4 := Tryz.zeroValue4
 t9 := Tryz.underlying9
 a9 := Tryz.isAgg9
 z9 := Tryz.sizeOf9
 v9 := Tryz.zeroValue9
 t24 := Tryz.underlying253
 a24 := Tryz.isAgg253
 z24 := Tryz.sizeOf253
 v24 := Tryz.zeroValue253 }
open Go.RowKit in
theorem Tryz.strings_CutPrefix (s p : ByteArray) (w : World) :
  Calls Tryz.prog 153 #[.string s,.string p] w fun e w' => e = .returned (.tuple #[.string ⟨(Lib.trimPrefix s.data.toList p.data.toList).toArray⟩,.bool (Lib.hasPrefix s.data.toList p.data.toList)]) ∧ w' = w := Any.strings_CutPrefix Tryz.lays103 s p w
def Tryz.lays190_ren : Go.Shelf.Ren := ⟨fun | 190 => 95 | 125 => 140 | 258 => 139 | 128 => 183 | 129 => 184 | 302 => 174 | 303 => 175 | 304 => 176 | 305 => 177 | 306 => 178 | 307 => 179 | 308 => 180 | 309 => 181 | 310 => 182 | 333 => 210 | 329 => 211 | 330 => 212 | 334 => 213 | 335 => 214 | 336 => 215 | 344 => 227 | n => n,fun | 31 => 27 | 9 => 9 | 3 => 3 | 46 => 243 | 0 => 0 | 51 => 280 | 53 => 282 | 4 => 4 | 183 => 274 | 182 => 273 | 131 => 182 | 5 => 5 | 218 => 307 | 222 => 311 | 228 => 332 | 229 => 333 | n => n,fun | n => n⟩
theorem Tryz.lays190 : Go.Proofs.Lays.n190 Tryz.prog Tryz.lays190_ren := {
 mixed := by kernel_rfl
 f125 := Tryz.func140.trans (congrArg some (by kernel_rfl))
 f128 := Tryz.func183.trans (congrArg some (by kernel_rfl))
 f129 := Tryz.func184.trans (congrArg some (by kernel_rfl))
 f190 := Tryz.func95.trans (congrArg some (by kernel_rfl))
 f258 := Tryz.func139.trans (congrArg some (by kernel_rfl))
 f302 := Tryz.func174.trans (congrArg some (by kernel_rfl))
 f303 := Tryz.func175.trans (congrArg some (by kernel_rfl))
 f304 := Tryz.func176.trans (congrArg some (by kernel_rfl))
 f305 := Tryz.func177.trans (congrArg some (by kernel_rfl))
 f306 := Tryz.func178.trans (congrArg some (by kernel_rfl))
 f307 := Tryz.func179.trans (congrArg some (by kernel_rfl))
 f308 := Tryz.func180.trans (congrArg some (by kernel_rfl))
 f309 := Tryz.func181.trans (congrArg some (by kernel_rfl))
 f310 := Tryz.func182.trans (congrArg some (by kernel_rfl))
 f329 := Tryz.func211.trans (congrArg some (by kernel_rfl))
 f330 := Tryz.func212.trans (congrArg some (by kernel_rfl))
 f333 := Tryz.func210.trans (congrArg some (by kernel_rfl))
 f334 := Tryz.func213.trans (congrArg some (by kernel_rfl))
 f335 := Tryz.func214.trans (congrArg some (by kernel_rfl))
 f336 := Tryz.func215.trans (congrArg some (by kernel_rfl))
 f344 := Tryz.func227.trans (congrArg some (by kernel_rfl))
 t0 := Tryz.underlying0
 a0 := Tryz.isAgg0
 z0 := Tryz.sizeOf0
 v0 := Tryz.zeroValue0
 t3 := Tryz.underlying3
 a3 := Tryz.isAgg3
 z3 := Tryz.sizeOf3
 v3 := Tryz.zeroValue3
 t4 := Tryz.underlying4
 a4 := Tryz.isAgg4
 z4 := Tryz.sizeOf4
 v4 := Tryz.zeroValue4
 t5 := Tryz.underlying5
 a5 := Tryz.isAgg5
 z5 := Tryz.sizeOf5
 v5 := Tryz.zeroValue5
 t9 := Tryz.underlying9
 a9 := Tryz.isAgg9
 z9 := Tryz.sizeOf9
 v9 := Tryz.zeroValue9
 t31 := Tryz.underlying27
 a31 := Tryz.isAgg27
 z31 := Tryz.sizeOf27
 v31 := Tryz.zeroValue27
 t46 := Tryz.underlying243
 a46 := Tryz.isAgg243
 z46 := Tryz.sizeOf243
 v46 := Tryz.zeroValue243
 t51 := Tryz.underlying280
 a51 := Tryz.isAgg280
 z51 := Tryz.sizeOf280
 v51 := Tryz.zeroValue280
 t53 := Tryz.underlying282
 a53 := Tryz.isAgg282
 z53 := Tryz.sizeOf282
 v53 := Tryz.zeroValue282
 t131 := Tryz.underlying182
 a131 := Tryz.isAgg182
 z131 := Tryz.sizeOf182
 v131 := Tryz.zeroValue182
 t182 := Tryz.underlying273
 a182 := Tryz.isAgg273
 z182 := Tryz.sizeOf273
 v182 := Tryz.zeroValue273
 t183 := Tryz.underlying274
 a183 := Tryz.isAgg274
 z183 := Tryz.sizeOf274
 v183 := Tryz.zeroValue274
 t218 := Tryz.underlying307
 a218 := Tryz.isAgg307
 z218 := Tryz.sizeOf307
 v218 := Tryz.zeroValue307
 t222 := Tryz.underlying311
 a222 := Tryz.isAgg311
 z222 := Tryz.sizeOf311
 v222 := Tryz.zeroValue311
 t228 := Tryz.underlying332
 a228 := Tryz.isAgg332
 z228 := Tryz.sizeOf332
 v228 := Tryz.zeroValue332
 t229 := Tryz.underlying333
 a229 := Tryz.isAgg333
 z229 := Tryz.sizeOf333
 v229 := Tryz.zeroValue333 }
open Go.Sort Go.RowKit in
theorem Tryz.slices_Sort_string (blk off cap : Nat) (ss : List (List UInt8)) (w : World) (hH : Holds encStr w blk off ss.toArray) (hblk : blk < w.heap.size) (hsz : ss.length < 4611686018427387904) :
  Calls Tryz.prog 95 #[.slice (some ⟨blk,off,none⟩) ss.length cap] w fun e w' =>
   e = .returned (.tuple #[]) ∧ ∃ n os,w' = grow (putRow encStr (Sort.ahead w n) blk off (ss.mergeSort fun x y => decide (x ≤ y)).toArray) os := Any.slices_Sort_string Tryz.lays190 blk off cap ss w hH hblk hsz
def Tryz.lays152_ren : Go.Shelf.Ren := ⟨fun | 152 => 170 | 137 => 131 | 119 => 207 | 224 => 208 | 225 => 209 | 217 => 167 | 266 => 201 | n => n,fun | 9 => 9 | 21 => 21 | 3 => 3 | 4 => 4 | 5 => 5 | 0 => 0 | 46 => 243 | n => n,fun | n => n⟩
theorem Tryz.lays152 : Go.Proofs.Lays.n152 Tryz.prog Tryz.lays152_ren := {
 mixed := by kernel_rfl
 f119 := Tryz.func207.trans (congrArg some (by kernel_rfl))
 f137 := Tryz.func131.trans (congrArg some (by kernel_rfl))
 f152 := Tryz.func170.trans (congrArg some (by kernel_rfl))
 f217 := Tryz.func167.trans (congrArg some (by kernel_rfl))
 f224 := Tryz.func208.trans (congrArg some (by kernel_rfl))
 f225 := Tryz.func209.trans (congrArg some (by kernel_rfl))
 f266 := Tryz.func201.trans (congrArg some (by kernel_rfl))
 t0 := Tryz.underlying0
 a0 := Tryz.isAgg0
 z0 := Tryz.sizeOf0
 v0 := Tryz.zeroValue0
 t3 := Tryz.underlying3
 a3 := Tryz.isAgg3
 z3 := Tryz.sizeOf3
 v3 := Tryz.zeroValue3
 t4 := Tryz.underlying4
 a4 := Tryz.isAgg4
 z4 := Tryz.sizeOf4
 v4 := Tryz.zeroValue4
 t5 := Tryz.underlying5
 a5 := Tryz.isAgg5
 z5 := Tryz.sizeOf5
 v5 := Tryz.zeroValue5
 t9 := Tryz.underlying9
 a9 := Tryz.isAgg9
 z9 := Tryz.sizeOf9
 v9 := Tryz.zeroValue9
 t21 := Tryz.underlying21
 a21 := Tryz.isAgg21
 z21 := Tryz.sizeOf21
 v21 := Tryz.zeroValue21
 t46 := Tryz.underlying243
 a46 := Tryz.isAgg243
 z46 := Tryz.sizeOf243
 v46 := Tryz.zeroValue243 }
open Go.RowKit Go.Lib in
theorem Tryz.strings_IndexRune_ascii (s : ByteArray) (r : Int) (w : World) (h0 : 0 ≤ r) (h1 : r < 128) :
  Calls Tryz.prog 170 #[.string s,.int .i32 r] w fun e w' => e = .returned (.int .i64 (Lib.indexByte s.data.toList r.toNat.toUInt8)) ∧ w' = w := Any.strings_IndexRune_ascii Tryz.lays152 s r w h0 h1
def Tryz.lays153_ren : Go.Shelf.Ren := ⟨fun | 153 => 133 | 152 => 170 | 226 => 171 | 227 => 121 | 228 => 162 | 137 => 131 | 119 => 207 | 224 => 208 | 225 => 209 | 217 => 167 | 266 => 201 | n => n,fun | 9 => 9 | 3 => 3 | 4 => 4 | 5 => 5 | 21 => 21 | 117 => 224 | 116 => 223 | 0 => 0 | 46 => 243 | 124 => 227 | n => n,fun | n => n⟩
theorem Tryz.lays153 : Go.Proofs.Lays.n153 Tryz.prog Tryz.lays153_ren := {
 mixed := by kernel_rfl
 f119 := Tryz.func207.trans (congrArg some (by kernel_rfl))
 f137 := Tryz.func131.trans (congrArg some (by kernel_rfl))
 f152 := Tryz.func170.trans (congrArg some (by kernel_rfl))
 f153 := Tryz.func133.trans (congrArg some (by kernel_rfl))
 f217 := Tryz.func167.trans (congrArg some (by kernel_rfl))
 f224 := Tryz.func208.trans (congrArg some (by kernel_rfl))
 f225 := Tryz.func209.trans (congrArg some (by kernel_rfl))
 f226 := Tryz.func171.trans (congrArg some (by kernel_rfl))
 f227 := Tryz.func121.trans (congrArg some (by kernel_rfl))
 f228 := Tryz.func162.trans (congrArg some (by kernel_rfl))
 f266 := Tryz.func201.trans (congrArg some (by kernel_rfl))
 t0 := Tryz.underlying0
 a0 := Tryz.isAgg0
 z0 := Tryz.sizeOf0
 v0 := Tryz.zeroValue0
 t3 := Tryz.underlying3
 a3 := Tryz.isAgg3
 z3 := Tryz.sizeOf3
 v3 := Tryz.zeroValue3
 t4 := Tryz.underlying4
 a4 := Tryz.isAgg4
 z4 := Tryz.sizeOf4
 v4 := Tryz.zeroValue4
 t5 := Tryz.underlying5
 a5 := Tryz.isAgg5
 z5 := Tryz.sizeOf5
 v5 := Tryz.zeroValue5
 t9 := Tryz.underlying9
 a9 := Tryz.isAgg9
 z9 := Tryz.sizeOf9
 v9 := Tryz.zeroValue9
 t21 := Tryz.underlying21
 a21 := Tryz.isAgg21
 z21 := Tryz.sizeOf21
 v21 := Tryz.zeroValue21
 t46 := Tryz.underlying243
 a46 := Tryz.isAgg243
 z46 := Tryz.sizeOf243
 v46 := Tryz.zeroValue243
 t116 := Tryz.underlying223
 a116 := Tryz.isAgg223
 z116 := Tryz.sizeOf223
 t117 := Tryz.underlying224
 a117 := Tryz.isAgg224
 z117 := Tryz.sizeOf224
 v117 := Tryz.zeroValue224
 t124 := Tryz.underlying227
 a124 := Tryz.isAgg227
 z124 := Tryz.sizeOf227
 v124 := Tryz.zeroValue227 }
open Go.RowKit Go.Lib in
theorem Tryz.strings_IndexAny_long (hv116 : ∀ w,(zeroValue 223).run Tryz.prog w = .ok (.agg (Array.replicate 256 (.bool false))) w) (s chars : ByteArray) (w : World) (h2 : 2 ≤ chars.size) (h8 : 8 < s.size) (hs : s.size < 4294967281) (hcs : chars.size < 4294967281) (hascii : ∀ (j : Nat) b,chars.data.toList[j]? = some b → b.toNat < 128) :
  Calls Tryz.prog 133 #[.string s,.string chars] w fun e w' => e = .returned (.int .i64 (Lib.indexAny s.data.toList chars.data.toList)) ∧ w' = ((w.alloc (.cells (Lib.setCells chars.data.toList) 223)).alloc (.cells (Lib.setCells chars.data.toList) 223)) := Any.strings_IndexAny_long Tryz.lays153 hv116 (by kernel_rfl) s chars w h2 h8 hs hcs hascii
open Go.RowKit Go.Lib in
theorem Tryz.strings_ToLower_any (s : ByteArray) (w : World) (hs : s.size < 35184372088832) (hV : CaseVar 0 caseA w) (hT : Lib.Utf8Tabs 1 2 w) :
  Calls Tryz.prog 118 #[.string s] w fun e w' => e = .returned (.string ⟨(Lib.toLowerD s.data.toList).toArray⟩) ∧ Below w.heap.size w w' := Any.strings_ToLower_any Tryz.lays159 Tryz.Builder_Extra_159 s w hs hV hT
def Tryz.lays193_ren : Go.Shelf.Ren := ⟨fun | 193 => 148 | n => n,fun | 31 => 27 | 9 => 9 | 4 => 4 | 3 => 3 | 0 => 0 | n => n,fun | n => n⟩
theorem Tryz.lays193 : Go.Proofs.Lays.n193 Tryz.prog Tryz.lays193_ren := {
 mixed := by kernel_rfl
 f193 := Tryz.func148.trans (congrArg some (by kernel_rfl))
 t0 := Tryz.underlying0
 a0 := Tryz.isAgg0
 z0 := Tryz.sizeOf0
 v0 := Tryz.zeroValue0
 t3 := Tryz.underlying3
 a3 := Tryz.isAgg3
 z3 := Tryz.sizeOf3
 v3 := Tryz.zeroValue3
 t4 := Tryz.underlying4
 a4 := Tryz.isAgg4
 z4 := Tryz.sizeOf4
 v4 := Tryz.zeroValue4
 t9 := Tryz.underlying9
 a9 := Tryz.isAgg9
 z9 := Tryz.sizeOf9
 v9 := Tryz.zeroValue9
 t31 := Tryz.underlying27
 a31 := Tryz.isAgg27
 z31 := Tryz.sizeOf27
 v31 := Tryz.zeroValue27 }
open Go.RowKit Go.Lib in
theorem Tryz.slices_Equal_string (b1 o1 n c b2 o2 m d : Nat) (xs ys : List ByteArray) (w : World) (hx : n ≤ xs.length) (hy : m ≤ ys.length) (hbig : n ≤ 9223372036854775807) (hbig2 : m ≤ 9223372036854775807) (hc1 : ∀ j,j < xs.length → w.cell? ⟨b1,o1 + j,none⟩ = some (.string (xs.getD j ByteArray.empty))) (hc2 : ∀ j,j < ys.length → w.cell? ⟨b2,o2 + j,none⟩ = some (.string (ys.getD j ByteArray.empty))) :
  Calls Tryz.prog 148 #[.slice (some ⟨b1,o1,none⟩) n c,.slice (some ⟨b2,o2,none⟩) m d] w fun e w' => e = .returned (.bool (decide (xs.take n = ys.take m))) ∧ ∃ q,w' = w.drewN q := Any.slices_Equal_string Tryz.lays193 b1 o1 n c b2 o2 m d xs ys w hx hy hbig hbig2 hc1 hc2
open Go.RowKit Go.Sort in
theorem Tryz.slices_Sort_string_none (p : Option Addr) (cap : Nat) (w : World) :
  Calls Tryz.prog 95 #[.slice p 0 cap] w fun e w' => e = .returned (.tuple #[]) ∧ w' = w := Any.slices_Sort_string_none Tryz.lays190 p cap w
def Tryz.keys64_ren : Go.Shelf.Ren := ⟨fun | 7 => 64 | 10 => 96 | n => n,fun | 23 => 75 | 26 => 9 | 3 => 40 | 28 => 134 | 0 => 0 | 27 => 133 | 33 => 119 | 4 => 4 | n => n,fun | n => n⟩
theorem Tryz.keys64 : Go.Proofs.SlLaysZ.n7 Tryz.prog Tryz.keys64_ren := {
 mixed := by kernel_rfl
 f7 := ⟨Tryz.f64.name,by decide,Tryz.func64.trans (congrArg some (by kernel_rfl))⟩
 f10 := ⟨Tryz.f96.name,by decide,Tryz.func96.trans (congrArg some (by kernel_rfl))⟩
 t0 := Tryz.underlying0
 a0 := Tryz.isAgg0
 z0 := Tryz.sizeOf0
 v0 := Tryz.zeroValue0
 t4 := Tryz.underlying4
 a4 := Tryz.isAgg4
 z4 := Tryz.sizeOf4
 v4 := Tryz.zeroValue4
 t23 := Tryz.underlying75
 a23 := Tryz.isAgg75
 z23 := Tryz.sizeOf75
 v23 := Tryz.zeroValue75
 t26 := Tryz.underlying9
 a26 := Tryz.isAgg9
 z26 := Tryz.sizeOf9
 v26 := Tryz.zeroValue9
 t27 := Tryz.underlying133
 a27 := Tryz.isAgg133
 z27 := Tryz.sizeOf133
 v27 := Tryz.zeroValue133
 t28 := Tryz.underlying134
 a28 := Tryz.isAgg134
 z28 := Tryz.sizeOf134
 v28 := Tryz.zeroValue134
 t33 := Tryz.underlying119
 a33 := Tryz.isAgg119
 z33 := Tryz.sizeOf119
 v33 := Tryz.zeroValue119 }
def Tryz.sorted63_ren : Go.Shelf.Ren := ⟨fun | 6 => 63 | 8 => 94 | 9 => 95 | 11 => 138 | 13 => 140 | 12 => 139 | 23 => 183 | 24 => 184 | 14 => 174 | 15 => 175 | 16 => 176 | 17 => 177 | 18 => 178 | 19 => 179 | 20 => 180 | 21 => 181 | 22 => 182 | 25 => 210 | 26 => 211 | 27 => 212 | 28 => 213 | 29 => 214 | 30 => 215 | 31 => 227 | n => n,fun | 26 => 9 | 28 => 134 | 24 => 27 | 0 => 0 | 3 => 3 | 37 => 243 | 48 => 280 | 50 => 282 | 4 => 4 | 40 => 274 | 39 => 273 | 45 => 182 | 5 => 5 | 9 => 9 | 51 => 307 | 55 => 311 | 57 => 332 | 58 => 333 | 33 => 119 | n => n,fun | n => n⟩
theorem Tryz.sorted63 : Go.Proofs.SlLaysZ.n6 Tryz.prog Tryz.sorted63_ren := {
 mixed := by kernel_rfl
 f6 := ⟨Tryz.f63.name,by decide,Tryz.func63.trans (congrArg some (by kernel_rfl))⟩
 f8 := ⟨Tryz.f94.name,by decide,Tryz.func94.trans (congrArg some (by kernel_rfl))⟩
 f11 := ⟨Tryz.f138.name,by decide,Tryz.func138.trans (congrArg some (by kernel_rfl))⟩
 t0 := Tryz.underlying0
 a0 := Tryz.isAgg0
 z0 := Tryz.sizeOf0
 v0 := Tryz.zeroValue0
 t24 := Tryz.underlying27
 a24 := Tryz.isAgg27
 z24 := Tryz.sizeOf27
 v24 := Tryz.zeroValue27
 t26 := Tryz.underlying9
 a26 := Tryz.isAgg9
 z26 := Tryz.sizeOf9
 v26 := Tryz.zeroValue9
 t28 := Tryz.underlying134
 a28 := Tryz.isAgg134
 z28 := Tryz.sizeOf134
 v28 := Tryz.zeroValue134
 i26 := by kernel_rfl }
def Tryz.sort95_ren : Go.Shelf.Ren := ⟨fun | 6 => 95 | 8 => 140 | 9 => 139 | 19 => 183 | 20 => 184 | 21 => 174 | 22 => 175 | 23 => 176 | 24 => 177 | 25 => 178 | 26 => 179 | 27 => 180 | 28 => 181 | 29 => 182 | 36 => 210 | 31 => 211 | 32 => 212 | 37 => 213 | 38 => 214 | 39 => 215 | 41 => 227 | n => n,fun | 27 => 27 | 29 => 9 | 3 => 3 | 32 => 243 | 26 => 27 | 0 => 0 | 44 => 280 | 46 => 282 | 4 => 4 | 36 => 274 | 35 => 273 | 41 => 182 | 5 => 5 | 9 => 9 | 53 => 307 | 57 => 311 | 63 => 332 | 64 => 333 | n => n,fun | n => n⟩
theorem Tryz.sort95 : Go.Proofs.SlLaysM.n6 Tryz.prog Tryz.sort95_ren := {
 mixed := by kernel_rfl
 f6 := ⟨Tryz.f95.name,by decide,Tryz.func95.trans (congrArg some (by kernel_rfl))⟩
 f8 := Tryz.func140.trans (congrArg some (by kernel_rfl))
 f9 := ⟨Tryz.f139.name,by decide,Tryz.func139.trans (congrArg some (by kernel_rfl))⟩
 f19 := Tryz.func183.trans (congrArg some (by kernel_rfl))
 f20 := Tryz.func184.trans (congrArg some (by kernel_rfl))
 f21 := ⟨Tryz.f174.name,by decide,Tryz.func174.trans (congrArg some (by kernel_rfl))⟩
 f22 := ⟨Tryz.f175.name,by decide,Tryz.func175.trans (congrArg some (by kernel_rfl))⟩
 f23 := ⟨Tryz.f176.name,by decide,Tryz.func176.trans (congrArg some (by kernel_rfl))⟩
 f24 := ⟨Tryz.f177.name,by decide,Tryz.func177.trans (congrArg some (by kernel_rfl))⟩
 f25 := ⟨Tryz.f178.name,by decide,Tryz.func178.trans (congrArg some (by kernel_rfl))⟩
 f26 := ⟨Tryz.f179.name,by decide,Tryz.func179.trans (congrArg some (by kernel_rfl))⟩
 f27 := ⟨Tryz.f180.name,by decide,Tryz.func180.trans (congrArg some (by kernel_rfl))⟩
 f28 := ⟨Tryz.f181.name,by decide,Tryz.func181.trans (congrArg some (by kernel_rfl))⟩
 f29 := ⟨Tryz.f182.name,by decide,Tryz.func182.trans (congrArg some (by kernel_rfl))⟩
 f31 := Tryz.func211.trans (congrArg some (by kernel_rfl))
 f32 := Tryz.func212.trans (congrArg some (by kernel_rfl))
 f36 := ⟨Tryz.f210.name,by decide,Tryz.func210.trans (congrArg some (by kernel_rfl))⟩
 f37 := ⟨Tryz.f213.name,by decide,Tryz.func213.trans (congrArg some (by kernel_rfl))⟩
 f38 := ⟨Tryz.f214.name,by decide,Tryz.func214.trans (congrArg some (by kernel_rfl))⟩
 f39 := ⟨Tryz.f215.name,by decide,Tryz.func215.trans (congrArg some (by kernel_rfl))⟩
 f41 := ⟨Tryz.f227.name,by decide,Tryz.func227.trans (congrArg some (by kernel_rfl))⟩
 t0 := Tryz.underlying0
 a0 := Tryz.isAgg0
 z0 := Tryz.sizeOf0
 v0 := Tryz.zeroValue0
 t3 := Tryz.underlying3
 a3 := Tryz.isAgg3
 z3 := Tryz.sizeOf3
 v3 := Tryz.zeroValue3
 t4 := Tryz.underlying4
 a4 := Tryz.isAgg4
 z4 := Tryz.sizeOf4
 v4 := Tryz.zeroValue4
 t5 := Tryz.underlying5
 a5 := Tryz.isAgg5
 z5 := Tryz.sizeOf5
 v5 := Tryz.zeroValue5
 t9 := Tryz.underlying9
 a9 := Tryz.isAgg9
 z9 := Tryz.sizeOf9
 v9 := Tryz.zeroValue9
 t26 := Tryz.underlying27
 a26 := Tryz.isAgg27
 z26 := Tryz.sizeOf27
 v26 := Tryz.zeroValue27
 t27 := Tryz.underlying27
 a27 := Tryz.isAgg27
 z27 := Tryz.sizeOf27
 v27 := Tryz.zeroValue27
 t29 := Tryz.underlying9
 a29 := Tryz.isAgg9
 z29 := Tryz.sizeOf9
 v29 := Tryz.zeroValue9
 t32 := Tryz.underlying243
 a32 := Tryz.isAgg243
 z32 := Tryz.sizeOf243
 v32 := Tryz.zeroValue243
 t35 := Tryz.underlying273
 a35 := Tryz.isAgg273
 z35 := Tryz.sizeOf273
 v35 := Tryz.zeroValue273
 t36 := Tryz.underlying274
 a36 := Tryz.isAgg274
 z36 := Tryz.sizeOf274
 v36 := Tryz.zeroValue274
 t41 := Tryz.underlying182
 a41 := Tryz.isAgg182
 z41 := Tryz.sizeOf182
 v41 := Tryz.zeroValue182
 t44 := Tryz.underlying280
 a44 := Tryz.isAgg280
 z44 := Tryz.sizeOf280
 v44 := Tryz.zeroValue280
 t46 := Tryz.underlying282
 a46 := Tryz.isAgg282
 z46 := Tryz.sizeOf282
 v46 := Tryz.zeroValue282
 t53 := Tryz.underlying307
 a53 := Tryz.isAgg307
 z53 := Tryz.sizeOf307
 v53 := Tryz.zeroValue307
 t57 := Tryz.underlying311
 a57 := Tryz.isAgg311
 z57 := Tryz.sizeOf311
 v57 := Tryz.zeroValue311
 t63 := Tryz.underlying332
 a63 := Tryz.isAgg332
 z63 := Tryz.sizeOf332
 v63 := Tryz.zeroValue332
 t64 := Tryz.underlying333
 a64 := Tryz.isAgg333
 z64 := Tryz.sizeOf333
 v64 := Tryz.zeroValue333 }
end Go.Proofs
