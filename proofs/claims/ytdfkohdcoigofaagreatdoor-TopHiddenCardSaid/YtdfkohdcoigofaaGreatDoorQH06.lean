/-
  DERIVED: THE SHELF's CONTRACTS AT THIS DUMP, IN PLAIN WORDS (tools/lay-plain.mjs out of 'TryzShelf.lean', which tools/lay-shelf.mjs wrote): THE SAME DECLARATIONS UNDER THE SAME NAMES: 'import', 'namespace', 'open', 'def', 'theorem' AND NOTHING ELSE: no command of the shelf's: FOR A HAND-IN. Each laying: the table of numbers ('.._ren') and one theorem, a field a fact of the dump's own or the kernel's comparison; each contract: ONE APPLICATION.
-/
import Derived.Test.YtdfkohdcoigofaaGreatDoorQH05
import Derived.Shelf.Strings.Builder1
import Derived.Shelf.Strings.Builder2
import Derived.Shelf.Strings.OnBuilder
import Derived.Shelf.Strings.Trim
import Derived.Shelf.Small.Utf8
import Derived.Shelf.Small.Bits
import Derived.Shelf.Small.Strs
import Derived.Shelf.Small.Wraps
import Derived.Shelf.Strings.BuilderF
import Derived.Shelf.Strings.BuilderK
import Derived.Shelf.Strings.BuilderRune
import Derived.Shelf.Utf8.AppendRune
import Derived.Shelf.Utf8.AppendRunePlain
import Derived.Shelf.Utf8.RuneCount
import Derived.Shelf.Strings.Builder2Cap
import Derived.Shelf.Strconv.Itoa0
import Derived.Shelf.Strings.Search1
import Derived.Shelf.Strings.Search2
import Derived.Shelf.Strings.Search3
import Derived.Shelf.Strings.Count
import Derived.Shelf.LaysM
import Derived.Shelf.Strings.Shaped
import Derived.Shelf.Sort.Plain
import Derived.Shelf.GgClosure.StringsIndexFunc
import Derived.Ground.GgwProg
import Derived.Shelf.GgClosure.StringsIndexFuncTop
import Derived.Shelf.Strings.Prefix
import Derived.Shelf.Unicode.Latin
import Derived.Shelf.Unicode.Decode
import Derived.Shelf.Strings.Runes
import Derived.Shelf.Strings.AsciiSet
import Derived.Shelf.Bits.Mul64
import Derived.Shelf.Strings.Repeat
import Derived.Shelf.Unicode.DecodeSlow
import Derived.Shelf.Unicode.DecodeAny
import Derived.Shelf.Unicode.DecodeLast
import Derived.Shelf.Unicode.CaseLookup
import Derived.Shelf.Unicode.CaseConvert
import Derived.Shelf.Unicode.CaseTo
import Derived.Shelf.Unicode.CaseLaid
import Derived.Shelf.Strings.BuilderCap
import Derived.Shelf.Slices.Turned
import Derived.Ground.Names2Prog
import Derived.Shelf.Slices.Clone
import Derived.Shelf.Slices.CompactI
import Derived.Shelf.Slices.SearchI
import Derived.Shelf.Slices.Cells
import Derived.Shelf.Slices.In.SortNone
import Derived.Ground.SlgnProg
import Derived.Shelf.SlicesE.Clone
import Derived.Test.YtdfkohdcoigofaaGreatDoorProg
namespace Go.Proofs
open Go.Shelf
def Tryz.lays170_ren : Go.Shelf.Ren := ⟨fun | 170 => 264 | n => n, fun | 70 => 147 | 3 => 3 | 0 => 0 | 72 => 150 | 37 => 148 | 5 => 5 | n => n, fun | n => n⟩
def Tryz.lays169_ren : Go.Shelf.Ren := ⟨fun | 169 => 68 | n => n, fun | 70 => 147 | 9 => 9 | 0 => 0 | 72 => 150 | 37 => 148 | 127 => 208 | 3 => 3 | 5 => 5 | n => n, fun | n => n⟩
def Tryz.lays241_ren : Go.Shelf.Ren := ⟨fun | 241 => 271 | 277 => 286 | n => n, fun | 70 => 147 | 3 => 3 | 0 => 0 | 72 => 150 | 37 => 148 | 5 => 5 | n => n, fun | n => n⟩
def Tryz.lays165_ren : Go.Shelf.Ren := ⟨fun | 165 => 250 | 240 => 252 | 241 => 271 | 276 => 272 | 277 => 286 | n => n, fun | 70 => 147 | 3 => 3 | 0 => 0 | 4 => 4 | 9 => 9 | 20 => 20 | 72 => 150 | 37 => 148 | 164 => 331 | 5 => 5 | n => n, fun | n => n⟩
def Tryz.lays159_ren : Go.Shelf.Ren := ⟨fun | 159 => 209 | 165 => 250 | 166 => 190 | 167 => 257 | 169 => 68 | 230 => 258 | 204 => 259 | 240 => 252 | 241 => 271 | 197 => 254 | 118 => 276 | 168 => 277 | 270 => 278 | 262 => 279 | 276 => 272 | 277 => 286 | 260 => 273 | 242 => 291 | 313 => 292 | 278 => 297 | 274 => 298 | 275 => 299 | n => n, fun | 9 => 9 | 4 => 4 | 3 => 3 | 5 => 5 | 72 => 150 | 0 => 0 | 76 => 269 | 75 => 268 | 107 => 321 | 70 => 147 | 20 => 20 | 37 => 148 | 127 => 208 | 21 => 21 | 105 => 316 | 164 => 331 | 162 => 351 | 203 => 349 | 119 => 343 | 46 => 176 | 139 => 346 | 138 => 345 | 51 => 242 | 160 => 353 | 208 => 360 | 206 => 358 | 80 => 117 | n => n, fun | 13 => 3 | 3 => 1 | 4 => 2 | n => n⟩
theorem Tryz.lays159 : Go.Proofs.Lays.n159 Tryz.prog Tryz.lays159_ren := {
  mixed := by kernel_rfl
  f118 := Tryz.func276.trans (congrArg some (by kernel_rfl))
  f159 := Tryz.func209.trans (congrArg some (by kernel_rfl))
  f165 := Tryz.func250.trans (congrArg some (by kernel_rfl))
  f166 := Tryz.func190.trans (congrArg some (by kernel_rfl))
  f167 := Tryz.func257.trans (congrArg some (by kernel_rfl))
  f168 := Tryz.func277.trans (congrArg some (by kernel_rfl))
  f169 := Tryz.func68.trans (congrArg some (by kernel_rfl))
  f197 := Tryz.func254.trans (congrArg some (by kernel_rfl))
  f204 := Tryz.func259.trans (congrArg some (by kernel_rfl))
  f230 := Tryz.func258.trans (congrArg some (by kernel_rfl))
  f240 := Tryz.func252.trans (congrArg some (by kernel_rfl))
  f241 := Tryz.func271.trans (congrArg some (by kernel_rfl))
  f242 := Tryz.func291.trans (congrArg some (by kernel_rfl))
  f260 := Tryz.func273.trans (congrArg some (by kernel_rfl))
  f262 := Tryz.func279.trans (congrArg some (by kernel_rfl))
  f270 := Tryz.func278.trans (congrArg some (by kernel_rfl))
  f274 := Tryz.func298.trans (congrArg some (by kernel_rfl))
  f275 := Tryz.func299.trans (congrArg some (by kernel_rfl))
  f276 := Tryz.func272.trans (congrArg some (by kernel_rfl))
  f277 := Tryz.func286.trans (congrArg some (by kernel_rfl))
  f278 := Tryz.func297.trans (congrArg some (by kernel_rfl))
  f313 := Tryz.func292.trans (congrArg some (by kernel_rfl))
  t0 := Tryz.underlying0
  a0 := Tryz.isAgg0
  z0 := Tryz.sizeOf0
  v0 := Tryz.zeroValue0
  t3 := Tryz.underlying3
  a3 := Tryz.isAgg3
  z3 := Tryz.sizeOf3
  v3 := Tryz.zeroValue3
  t4 := Tryz.underlying4
  a4 := Tryz.isAgg4
  z4 := Tryz.sizeOf4
  v4 := Tryz.zeroValue4
  t5 := Tryz.underlying5
  a5 := Tryz.isAgg5
  z5 := Tryz.sizeOf5
  v5 := Tryz.zeroValue5
  t9 := Tryz.underlying9
  a9 := Tryz.isAgg9
  z9 := Tryz.sizeOf9
  v9 := Tryz.zeroValue9
  t20 := Tryz.underlying20
  a20 := Tryz.isAgg20
  z20 := Tryz.sizeOf20
  v20 := Tryz.zeroValue20
  t21 := Tryz.underlying21
  a21 := Tryz.isAgg21
  z21 := Tryz.sizeOf21
  v21 := Tryz.zeroValue21
  t37 := Tryz.underlying148
  a37 := Tryz.isAgg148
  z37 := Tryz.sizeOf148
  v37 := Tryz.zeroValue148
  t46 := Tryz.underlying176
  a46 := Tryz.isAgg176
  z46 := Tryz.sizeOf176
  v46 := Tryz.zeroValue176
  t51 := Tryz.underlying242
  a51 := Tryz.isAgg242
  z51 := Tryz.sizeOf242
  v51 := Tryz.zeroValue242
  t70 := Tryz.underlying147
  a70 := Tryz.isAgg147
  z70 := Tryz.sizeOf147
  v70 := Tryz.zeroValue147
  t72 := Tryz.underlying150
  a72 := Tryz.isAgg150
  z72 := Tryz.sizeOf150
  v72 := Tryz.zeroValue150
  t75 := Tryz.underlying268
  a75 := Tryz.isAgg268
  z75 := Tryz.sizeOf268
  v75 := Tryz.zeroValue268
  t76 := Tryz.underlying269
  a76 := Tryz.isAgg269
  z76 := Tryz.sizeOf269
  v76 := Tryz.zeroValue269
  t105 := Tryz.underlying316
  a105 := Tryz.isAgg316
  z105 := Tryz.sizeOf316
  v105 := Tryz.zeroValue316
  t107 := Tryz.underlying321
  a107 := Tryz.isAgg321
  z107 := Tryz.sizeOf321
  v107 := Tryz.zeroValue321
  t119 := Tryz.underlying343
  a119 := Tryz.isAgg343
  z119 := Tryz.sizeOf343
  t127 := Tryz.underlying208
  a127 := Tryz.isAgg208
  z127 := Tryz.sizeOf208
  v127 := Tryz.zeroValue208
  t138 := Tryz.underlying345
  a138 := Tryz.isAgg345
  z138 := Tryz.sizeOf345
  v138 := Tryz.zeroValue345
  t139 := Tryz.underlying346
  a139 := Tryz.isAgg346
  z139 := Tryz.sizeOf346
  v139 := Tryz.zeroValue346
  t160 := Tryz.underlying353
  a160 := Tryz.isAgg353
  z160 := Tryz.sizeOf353
  v160 := Tryz.zeroValue353
  t162 := Tryz.underlying351
  a162 := Tryz.isAgg351
  z162 := Tryz.sizeOf351
  v162 := Tryz.zeroValue351
  t164 := Tryz.underlying331
  a164 := Tryz.isAgg331
  z164 := Tryz.sizeOf331
  v164 := Tryz.zeroValue331
  t203 := Tryz.underlying349
  a203 := Tryz.isAgg349
  z203 := Tryz.sizeOf349
  v203 := Tryz.zeroValue349
  t206 := Tryz.underlying358
  a206 := Tryz.isAgg358
  z206 := Tryz.sizeOf358
  v206 := Tryz.zeroValue358
  t208 := Tryz.underlying360
  a208 := Tryz.isAgg360
  z208 := Tryz.sizeOf360
  v208 := Tryz.zeroValue360
  g3 := by kernel_rfl
  g4 := by kernel_rfl
  g13 := by kernel_rfl }
theorem Tryz.Builder_Extra_159 : Builder.Extra Tryz.prog Tryz.lays159_ren := {
  sizeBuilder := by kernel_rfl
  liesBuilder := by kernel_rfl
  t5 := Tryz.underlying5
  a5 := Tryz.isAgg5
  z5 := Tryz.sizeOf5
  v5 := Tryz.zeroValue5
  infoByte := by kernel_rfl
  cellsByte := by kernel_rfl
  sizeByte := by kernel_rfl
  neB5 := by decide }
open Go.RowKit in
/-- strings.ToLower: "ToLower returns s with all Unicode letters mapped to their lower case.": ON ASCII TEXT OF AT MOST 2^47 BYTES. Below the heap's end the world is as it was: where a letter turns, the call makes a builder and its buffer. (LAID: no walk: one application.) -/
theorem Tryz.strings_ToLower_ascii (s : ByteArray) (w : World) (hs : s.size ≤ 140737488355328) (hascii : ∀ (j : Nat) (b : UInt8), s.data.toList[j]? = some b → b.toNat < 128) :
    Calls Tryz.prog 209 #[.string s] w fun e w' => e = .returned (.string ⟨(Lib.toLowerA s.data.toList).toArray⟩) ∧ Below w.heap.size w w' := Any.strings_ToLower_ascii Tryz.lays159 Tryz.Builder_Extra_159 s w hs hascii
def Tryz.lays156_ren : Go.Shelf.Ren := ⟨fun | 156 => 187 | 165 => 250 | 166 => 190 | 169 => 68 | 240 => 252 | 241 => 271 | 276 => 272 | 277 => 286 | n => n, fun | 31 => 109 | 9 => 9 | 3 => 3 | 4 => 4 | 0 => 0 | 20 => 20 | 72 => 150 | 76 => 269 | 70 => 147 | 37 => 148 | 75 => 268 | 127 => 208 | 164 => 331 | 5 => 5 | 80 => 117 | n => n, fun | n => n⟩
theorem Tryz.lays156 : Go.Proofs.Lays.n156 Tryz.prog Tryz.lays156_ren := {
  mixed := by kernel_rfl
  f156 := Tryz.func187.trans (congrArg some (by kernel_rfl))
  f165 := Tryz.func250.trans (congrArg some (by kernel_rfl))
  f166 := Tryz.func190.trans (congrArg some (by kernel_rfl))
  f169 := Tryz.func68.trans (congrArg some (by kernel_rfl))
  f240 := Tryz.func252.trans (congrArg some (by kernel_rfl))
  f241 := Tryz.func271.trans (congrArg some (by kernel_rfl))
  f276 := Tryz.func272.trans (congrArg some (by kernel_rfl))
  f277 := Tryz.func286.trans (congrArg some (by kernel_rfl))
  t0 := Tryz.underlying0
  a0 := Tryz.isAgg0
  z0 := Tryz.sizeOf0
  v0 := Tryz.zeroValue0
  t3 := Tryz.underlying3
  a3 := Tryz.isAgg3
  z3 := Tryz.sizeOf3
  v3 := Tryz.zeroValue3
  t4 := Tryz.underlying4
  a4 := Tryz.isAgg4
  z4 := Tryz.sizeOf4
  v4 := Tryz.zeroValue4
  t9 := Tryz.underlying9
  a9 := Tryz.isAgg9
  z9 := Tryz.sizeOf9
  v9 := Tryz.zeroValue9
  t20 := Tryz.underlying20
  a20 := Tryz.isAgg20
  z20 := Tryz.sizeOf20
  v20 := Tryz.zeroValue20
  t31 := Tryz.underlying109
  a31 := Tryz.isAgg109
  z31 := Tryz.sizeOf109
  v31 := Tryz.zeroValue109
  t37 := Tryz.underlying148
  a37 := Tryz.isAgg148
  z37 := Tryz.sizeOf148
  v37 := Tryz.zeroValue148
  t70 := Tryz.underlying147
  a70 := Tryz.isAgg147
  z70 := Tryz.sizeOf147
  v70 := Tryz.zeroValue147
  t72 := Tryz.underlying150
  a72 := Tryz.isAgg150
  z72 := Tryz.sizeOf150
  v72 := Tryz.zeroValue150
  t75 := Tryz.underlying268
  a75 := Tryz.isAgg268
  z75 := Tryz.sizeOf268
  v75 := Tryz.zeroValue268
  t76 := Tryz.underlying269
  a76 := Tryz.isAgg269
  z76 := Tryz.sizeOf269
  v76 := Tryz.zeroValue269
  t127 := Tryz.underlying208
  a127 := Tryz.isAgg208
  z127 := Tryz.sizeOf208
  v127 := Tryz.zeroValue208
  t164 := Tryz.underlying331
  a164 := Tryz.isAgg331
  z164 := Tryz.sizeOf331
  v164 := Tryz.zeroValue331 }
theorem Tryz.Builder_Extra_156 : Builder.Extra Tryz.prog Tryz.lays156_ren := {
  sizeBuilder := by kernel_rfl
  liesBuilder := by kernel_rfl
  t5 := Tryz.underlying5
  a5 := Tryz.isAgg5
  z5 := Tryz.sizeOf5
  v5 := Tryz.zeroValue5
  infoByte := by kernel_rfl
  cellsByte := by kernel_rfl
  sizeByte := by kernel_rfl
  neB5 := by decide }
open Go.RowKit in
/-- strings.Join: "Join concatenates the elements of its first argument to create a single string. The separator string sep is placed between elements in the resulting string.": HOWEVER MANY ELEMENTS. Below the heap's end the world is as it was. (LAID: no walk: one application.) -/
theorem Tryz.strings_Join (bk o c : Nat) (xs : List ByteArray) (sep : ByteArray) (w : World) (hcells : ∀ (j : Nat) x, xs[j]? = some x → w.cell? ⟨bk, o + j, none⟩ = some (.string x)) (hbk : bk < w.heap.size) (hN : xs.length ≤ 140737488355328) (hcap : xs.length ≤ c) (hlen : (Lib.join (xs.map (·.data.toList)) sep.data.toList).length ≤ 140737488355328) :
    Calls Tryz.prog 187 #[.slice (some ⟨bk, o, none⟩) xs.length c, .string sep] w fun e w' => e = .returned (.string ⟨(Lib.join (xs.map (·.data.toList)) sep.data.toList).toArray⟩) ∧ Below w.heap.size w w' := Any.strings_Join Tryz.lays156 Tryz.Builder_Extra_156 bk o c xs sep w hcells hbk hN hcap hlen
def Tryz.lays231_ren : Go.Shelf.Ren := ⟨fun | 231 => 197 | n => n, fun | 9 => 9 | 5 => 5 | 3 => 3 | 4 => 4 | n => n, fun | n => n⟩
def Tryz.lays232_ren : Go.Shelf.Ren := ⟨fun | 232 => 198 | n => n, fun | 9 => 9 | 5 => 5 | 3 => 3 | 4 => 4 | n => n, fun | n => n⟩
def Tryz.lays160_ren : Go.Shelf.Ren := ⟨fun | 160 => 136 | 232 => 198 | 231 => 197 | 227 => 199 | 234 => 201 | 233 => 200 | 236 => 203 | 235 => 202 | 228 => 253 | 271 => 256 | 151 => 255 | 197 => 254 | 120 => 275 | 152 => 274 | 260 => 273 | 137 => 287 | 119 => 288 | 224 => 289 | 225 => 290 | 217 => 293 | 266 => 300 | n => n, fun | 9 => 9 | 4 => 4 | 3 => 3 | 5 => 5 | 117 => 281 | 116 => 280 | 0 => 0 | 124 => 284 | 21 => 21 | 105 => 316 | 46 => 176 | 119 => 343 | 139 => 346 | 138 => 345 | n => n, fun | 3 => 1 | 4 => 2 | n => n⟩
def Tryz.lays118_ren : Go.Shelf.Ren := ⟨fun | 118 => 276 | n => n, fun | 21 => 21 | 3 => 3 | 4 => 4 | n => n, fun | n => n⟩
def Tryz.lays119_ren : Go.Shelf.Ren := ⟨fun | 119 => 288 | n => n, fun | 21 => 21 | 4 => 4 | n => n, fun | n => n⟩
def Tryz.lays120_ren : Go.Shelf.Ren := ⟨fun | 120 => 275 | n => n, fun | 5 => 5 | 4 => 4 | n => n, fun | n => n⟩
def Tryz.lays128_ren : Go.Shelf.Ren := ⟨fun | 128 => 162 | n => n, fun | 51 => 242 | 3 => 3 | 4 => 4 | 46 => 176 | 5 => 5 | 9 => 9 | n => n, fun | n => n⟩
def Tryz.lays125_ren : Go.Shelf.Ren := ⟨fun | 125 => 81 | 128 => 162 | 129 => 163 | n => n, fun | 46 => 176 | 3 => 3 | 51 => 242 | 53 => 244 | 4 => 4 | 5 => 5 | 9 => 9 | n => n, fun | n => n⟩
def Tryz.lays137_ren : Go.Shelf.Ren := ⟨fun | 137 => 287 | 217 => 293 | 266 => 300 | n => n, fun | 9 => 9 | 5 => 5 | 3 => 3 | n => n, fun | n => n⟩
def Tryz.lays215_ren : Go.Shelf.Ren := ⟨fun | 215 => 82 | n => n, fun | 3 => 3 | 4 => 4 | n => n, fun | n => n⟩
def Tryz.lays122_ren : Go.Shelf.Ren := ⟨fun | 122 => 35 | 215 => 82 | n => n, fun | 3 => 3 | 4 => 4 | n => n, fun | n => n⟩
theorem Tryz.lays122 : Go.Proofs.Lays.n122 Tryz.prog Tryz.lays122_ren := {
  mixed := by kernel_rfl
  f122 := Tryz.func35.trans (congrArg some (by kernel_rfl))
  f215 := Tryz.func82.trans (congrArg some (by kernel_rfl))
  t3 := Tryz.underlying3
  a3 := Tryz.isAgg3
  z3 := Tryz.sizeOf3
  v3 := Tryz.zeroValue3
  t4 := Tryz.underlying4
  a4 := Tryz.isAgg4
  z4 := Tryz.sizeOf4
  v4 := Tryz.zeroValue4 }
open Go.RowKit in
/-- cmp.Compare at int: "Compare returns -1 if x is less than y, 0 if x equals y, +1 if x is greater than y.": IT RETURNS 'Lib.compareInt x y'; the world is as it was. (LAID: no walk: one application.) -/
theorem Tryz.cmp_Compare_int (x y : Int) (w : World) :
    Calls Tryz.prog 35 #[.int .i64 x, .int .i64 y] w fun e w' => e = .returned (.int .i64 (Lib.compareInt x y)) ∧ w' = w := Any.cmp_Compare_int Tryz.lays122 x y w
def Tryz.lays278_ren : Go.Shelf.Ren := ⟨fun | 278 => 297 | n => n, fun | 37 => 148 | 21 => 21 | 51 => 242 | 4 => 4 | 46 => 176 | 5 => 5 | n => n, fun | n => n⟩
def Tryz.lays242_ren : Go.Shelf.Ren := ⟨fun | 242 => 291 | 278 => 297 | n => n, fun | 37 => 148 | 21 => 21 | 51 => 242 | 4 => 4 | 5 => 5 | 46 => 176 | n => n, fun | n => n⟩
def Tryz.lays195_ren : Go.Shelf.Ren := ⟨fun | 195 => 295 | n => n, fun | 9 => 9 | 3 => 3 | 0 => 0 | 4 => 4 | n => n, fun | n => n⟩
def Tryz.lays129_ren : Go.Shelf.Ren := ⟨fun | 129 => 163 | n => n, fun | 53 => 244 | 3 => 3 | 4 => 4 | 46 => 176 | 5 => 5 | 9 => 9 | n => n, fun | n => n⟩
def Tryz.lays217_ren : Go.Shelf.Ren := ⟨fun | 217 => 293 | 266 => 300 | n => n, fun | 9 => 9 | 5 => 5 | 3 => 3 | n => n, fun | n => n⟩
def Tryz.lays224_ren : Go.Shelf.Ren := ⟨fun | 224 => 289 | n => n, fun | 3 => 3 | n => n, fun | n => n⟩
def Tryz.lays314_ren : Go.Shelf.Ren := ⟨fun | 314 => 301 | n => n, fun | 9 => 9 | 51 => 242 | 3 => 3 | 4 => 4 | 5 => 5 | 46 => 176 | n => n, fun | n => n⟩
def Tryz.lays267_ren : Go.Shelf.Ren := ⟨fun | 267 => 294 | 314 => 301 | n => n, fun | 9 => 9 | 3 => 3 | 146 => 337 | 51 => 242 | 4 => 4 | 5 => 5 | 46 => 176 | n => n, fun | n => n⟩
def Tryz.lays219_ren : Go.Shelf.Ren := ⟨fun | 219 => 280 | 217 => 293 | 225 => 290 | 224 => 289 | 267 => 294 | 266 => 300 | 314 => 301 | n => n, fun | 9 => 9 | 3 => 3 | 4 => 4 | 5 => 5 | 46 => 176 | 146 => 337 | 51 => 242 | n => n, fun | 1 => 4 | n => n⟩
def Tryz.lays143_ren : Go.Shelf.Ren := ⟨fun | 143 => 260 | 219 => 280 | 217 => 293 | 225 => 290 | 224 => 289 | 267 => 294 | 266 => 300 | 314 => 301 | n => n, fun | 9 => 9 | 3 => 3 | 4 => 4 | 5 => 5 | 46 => 176 | 146 => 337 | 51 => 242 | n => n, fun | 1 => 4 | n => n⟩
def Tryz.lays144_ren : Go.Shelf.Ren := ⟨fun | 144 => 210 | 143 => 260 | 219 => 280 | 217 => 293 | 225 => 290 | 224 => 289 | 267 => 294 | 266 => 300 | 314 => 301 | n => n, fun | 9 => 9 | 4 => 4 | 3 => 3 | 5 => 5 | 46 => 176 | 146 => 337 | 51 => 242 | n => n, fun | 1 => 4 | n => n⟩
def Tryz.lays138_ren : Go.Shelf.Ren := ⟨fun | 138 => 281 | 195 => 295 | 218 => 296 | 143 => 260 | 219 => 280 | 217 => 293 | 225 => 290 | 224 => 289 | 267 => 294 | 266 => 300 | 314 => 301 | n => n, fun | 9 => 9 | 3 => 3 | 4 => 4 | 5 => 5 | 0 => 0 | 46 => 176 | 146 => 337 | 51 => 242 | n => n, fun | 1 => 4 | n => n⟩
def Tryz.laysM219_ren : Go.Shelf.Ren := ⟨fun | 219 => 280 | 217 => 293 | 225 => 290 | 224 => 289 | 267 => 294 | 266 => 300 | 314 => 301 | n => n, fun | 9 => 9 | 3 => 3 | 4 => 4 | 5 => 5 | 46 => 176 | 146 => 337 | 51 => 242 | n => n, fun | 1 => 4 | n => n⟩
def Tryz.laysM143_ren : Go.Shelf.Ren := ⟨fun | 143 => 260 | 219 => 280 | 217 => 293 | 225 => 290 | 224 => 289 | 267 => 294 | 266 => 300 | 314 => 301 | n => n, fun | 9 => 9 | 3 => 3 | 4 => 4 | 5 => 5 | 46 => 176 | 146 => 337 | 51 => 242 | n => n, fun | 1 => 4 | n => n⟩
def Tryz.laysM144_ren : Go.Shelf.Ren := ⟨fun | 144 => 210 | 143 => 260 | 219 => 280 | 217 => 293 | 225 => 290 | 224 => 289 | 267 => 294 | 266 => 300 | 314 => 301 | n => n, fun | 9 => 9 | 4 => 4 | 3 => 3 | 5 => 5 | 46 => 176 | 146 => 337 | 51 => 242 | n => n, fun | 1 => 4 | n => n⟩
def Tryz.laysM138_ren : Go.Shelf.Ren := ⟨fun | 138 => 281 | 195 => 295 | 218 => 296 | 143 => 260 | 219 => 280 | 217 => 293 | 225 => 290 | 224 => 289 | 267 => 294 | 266 => 300 | 314 => 301 | n => n, fun | 9 => 9 | 3 => 3 | 4 => 4 | 5 => 5 | 0 => 0 | 46 => 176 | 146 => 337 | 51 => 242 | n => n, fun | 1 => 4 | n => n⟩
def Tryz.lays189_ren : Go.Shelf.Ren := ⟨fun | 189 => 90 | 125 => 81 | 257 => 170 | 128 => 162 | 129 => 163 | 294 => 235 | 295 => 236 | 296 => 237 | 297 => 238 | 298 => 239 | 299 => 240 | 216 => 241 | 300 => 242 | 301 => 243 | 328 => 267 | 329 => 230 | 330 => 231 | 331 => 268 | 332 => 269 | 215 => 82 | 343 => 285 | n => n, fun | 28 => 25 | 3 => 3 | 46 => 176 | 0 => 0 | 51 => 242 | 53 => 244 | 4 => 4 | 183 => 236 | 182 => 235 | 131 => 73 | 5 => 5 | 9 => 9 | 218 => 294 | 222 => 230 | 228 => 326 | 229 => 84 | n => n, fun | n => n⟩
theorem Tryz.lays189 : Go.Proofs.Lays.n189 Tryz.prog Tryz.lays189_ren := {
  mixed := by kernel_rfl
  f125 := Tryz.func81.trans (congrArg some (by kernel_rfl))
  f128 := Tryz.func162.trans (congrArg some (by kernel_rfl))
  f129 := Tryz.func163.trans (congrArg some (by kernel_rfl))
  f189 := Tryz.func90.trans (congrArg some (by kernel_rfl))
  f215 := Tryz.func82.trans (congrArg some (by kernel_rfl))
  f216 := Tryz.func241.trans (congrArg some (by kernel_rfl))
  f257 := Tryz.func170.trans (congrArg some (by kernel_rfl))
  f294 := Tryz.func235.trans (congrArg some (by kernel_rfl))
  f295 := Tryz.func236.trans (congrArg some (by kernel_rfl))
  f296 := Tryz.func237.trans (congrArg some (by kernel_rfl))
  f297 := Tryz.func238.trans (congrArg some (by kernel_rfl))
  f298 := Tryz.func239.trans (congrArg some (by kernel_rfl))
  f299 := Tryz.func240.trans (congrArg some (by kernel_rfl))
  f300 := Tryz.func242.trans (congrArg some (by kernel_rfl))
  f301 := Tryz.func243.trans (congrArg some (by kernel_rfl))
  f328 := Tryz.func267.trans (congrArg some (by kernel_rfl))
  f329 := Tryz.func230.trans (congrArg some (by kernel_rfl))
  f330 := Tryz.func231.trans (congrArg some (by kernel_rfl))
  f331 := Tryz.func268.trans (congrArg some (by kernel_rfl))
  f332 := Tryz.func269.trans (congrArg some (by kernel_rfl))
  f343 := Tryz.func285.trans (congrArg some (by kernel_rfl))
  t0 := Tryz.underlying0
  a0 := Tryz.isAgg0
  z0 := Tryz.sizeOf0
  v0 := Tryz.zeroValue0
  t3 := Tryz.underlying3
  a3 := Tryz.isAgg3
  z3 := Tryz.sizeOf3
  v3 := Tryz.zeroValue3
  t4 := Tryz.underlying4
  a4 := Tryz.isAgg4
  z4 := Tryz.sizeOf4
  v4 := Tryz.zeroValue4
  t5 := Tryz.underlying5
  a5 := Tryz.isAgg5
  z5 := Tryz.sizeOf5
  v5 := Tryz.zeroValue5
  t9 := Tryz.underlying9
  a9 := Tryz.isAgg9
  z9 := Tryz.sizeOf9
  v9 := Tryz.zeroValue9
  t28 := Tryz.underlying25
  a28 := Tryz.isAgg25
  z28 := Tryz.sizeOf25
  v28 := Tryz.zeroValue25
  t46 := Tryz.underlying176
  a46 := Tryz.isAgg176
  z46 := Tryz.sizeOf176
  v46 := Tryz.zeroValue176
  t51 := Tryz.underlying242
  a51 := Tryz.isAgg242
  z51 := Tryz.sizeOf242
  v51 := Tryz.zeroValue242
  t53 := Tryz.underlying244
  a53 := Tryz.isAgg244
  z53 := Tryz.sizeOf244
  v53 := Tryz.zeroValue244
  t131 := Tryz.underlying73
  a131 := Tryz.isAgg73
  z131 := Tryz.sizeOf73
  v131 := Tryz.zeroValue73
  t182 := Tryz.underlying235
  a182 := Tryz.isAgg235
  z182 := Tryz.sizeOf235
  v182 := Tryz.zeroValue235
  t183 := Tryz.underlying236
  a183 := Tryz.isAgg236
  z183 := Tryz.sizeOf236
  v183 := Tryz.zeroValue236
  t218 := Tryz.underlying294
  a218 := Tryz.isAgg294
  z218 := Tryz.sizeOf294
  v218 := Tryz.zeroValue294
  t222 := Tryz.underlying230
  a222 := Tryz.isAgg230
  z222 := Tryz.sizeOf230
  v222 := Tryz.zeroValue230
  t228 := Tryz.underlying326
  a228 := Tryz.isAgg326
  z228 := Tryz.sizeOf326
  v228 := Tryz.zeroValue326
  t229 := Tryz.underlying84
  a229 := Tryz.isAgg84
  z229 := Tryz.sizeOf84
  v229 := Tryz.zeroValue84 }
open Go.Sort Go.RowKit in
theorem Tryz.slices_Sort_int (blk off cap : Nat) (zs : List Int) (w : World) (hH : Holds (Value.int .i64) w blk off zs.toArray) (hblk : blk < w.heap.size) (hsz : zs.length < 4611686018427387904) :
    Calls Tryz.prog 90 #[.slice (some ⟨blk, off, none⟩) zs.length cap] w fun e w' =>
      e = .returned (.tuple #[]) ∧ ∃ n os, w' = grow (putRow (Value.int .i64) (Sort.ahead w n) blk off (zs.mergeSort fun x y => decide (x ≤ y)).toArray) os := Any.slices_Sort_int Tryz.lays189 blk off cap zs w hH hblk hsz
def Tryz.lays315_ren : Go.Shelf.Ren := ⟨fun | 315 => 245 | n => n, fun | 9 => 9 | 40 => 252 | 4 => 4 | 3 => 3 | 0 => 0 | 21 => 21 | n => n, fun | n => n⟩
def Tryz.laysGw15_ren : Go.Shelf.Ren := ⟨fun | 15 => 178 | 20 => 245 | n => n, fun | 9 => 9 | 23 => 252 | 3 => 3 | 4 => 4 | 0 => 0 | 21 => 21 | n => n, fun | n => n⟩
def Tryz.laysGw17_ren : Go.Shelf.Ren := ⟨fun | 17 => 204 | 15 => 178 | 20 => 245 | n => n, fun | 9 => 9 | 23 => 252 | 4 => 4 | 3 => 3 | 0 => 0 | 21 => 21 | n => n, fun | n => n⟩
def Tryz.lays206_ren : Go.Shelf.Ren := ⟨fun | 206 => 284 | n => n, fun | 9 => 9 | 4 => 4 | 3 => 3 | n => n, fun | n => n⟩
def Tryz.lays99_ren : Go.Shelf.Ren := ⟨fun | 99 => 263 | 206 => 284 | n => n, fun | 9 => 9 | 4 => 4 | 3 => 3 | n => n, fun | n => n⟩
def Tryz.lays204_ren : Go.Shelf.Ren := ⟨fun | 204 => 259 | 262 => 279 | 313 => 292 | 274 => 298 | 275 => 299 | n => n, fun | 21 => 21 | 4 => 4 | 3 => 3 | 162 => 351 | 203 => 349 | 160 => 353 | 46 => 176 | 0 => 0 | 208 => 360 | 51 => 242 | 206 => 358 | n => n, fun | 13 => 3 | n => n⟩
def Tryz.lays197_ren : Go.Shelf.Ren := ⟨fun | 197 => 254 | 260 => 273 | n => n, fun | 9 => 9 | 21 => 21 | 3 => 3 | 4 => 4 | 5 => 5 | 105 => 316 | 119 => 343 | 0 => 0 | 46 => 176 | 139 => 346 | 138 => 345 | n => n, fun | 3 => 1 | 4 => 2 | n => n⟩
def Tryz.lays152_ren : Go.Shelf.Ren := ⟨fun | 152 => 274 | 137 => 287 | 119 => 288 | 224 => 289 | 225 => 290 | 217 => 293 | 266 => 300 | n => n, fun | 9 => 9 | 21 => 21 | 3 => 3 | 4 => 4 | 5 => 5 | 0 => 0 | 46 => 176 | n => n, fun | n => n⟩
def Tryz.lays151_ren : Go.Shelf.Ren := ⟨fun | 151 => 255 | 152 => 274 | 137 => 287 | 119 => 288 | 224 => 289 | 225 => 290 | 217 => 293 | 266 => 300 | n => n, fun | 9 => 9 | 21 => 21 | 4 => 4 | 3 => 3 | 5 => 5 | 0 => 0 | 46 => 176 | n => n, fun | n => n⟩
def Tryz.lays227_ren : Go.Shelf.Ren := ⟨fun | 227 => 199 | n => n, fun | 9 => 9 | 116 => 280 | 4 => 4 | 0 => 0 | 3 => 3 | 5 => 5 | n => n, fun | n => n⟩
def Tryz.lays228_ren : Go.Shelf.Ren := ⟨fun | 228 => 253 | n => n, fun | 124 => 284 | 5 => 5 | 4 => 4 | 0 => 0 | 116 => 280 | n => n, fun | n => n⟩
def Tryz.lays264_ren : Go.Shelf.Ren := ⟨fun | 264 => 283 | n => n, fun | 53 => 244 | 46 => 176 | n => n, fun | n => n⟩
def Tryz.lays212_ren : Go.Shelf.Ren := ⟨fun | 212 => 262 | 263 => 282 | 264 => 283 | n => n, fun | 46 => 176 | 51 => 242 | 146 => 337 | 53 => 244 | 148 => 339 | n => n, fun | n => n⟩
def Tryz.lays105_ren : Go.Shelf.Ren := ⟨fun | 105 => 212 | 212 => 262 | 99 => 263 | 165 => 250 | 166 => 190 | 170 => 264 | 169 => 68 | 263 => 282 | 264 => 283 | 206 => 284 | 240 => 252 | 241 => 271 | 276 => 272 | 277 => 286 | n => n, fun | 9 => 9 | 3 => 3 | 4 => 4 | 20 => 20 | 0 => 0 | 46 => 176 | 109 => 324 | 5 => 5 | 72 => 150 | 76 => 269 | 51 => 242 | 146 => 337 | 53 => 244 | 148 => 339 | 70 => 147 | 37 => 148 | 75 => 268 | 127 => 208 | 164 => 331 | 80 => 117 | n => n, fun | n => n⟩
def Tryz.lays260_ren : Go.Shelf.Ren := ⟨fun | 260 => 273 | n => n, fun | 9 => 9 | 21 => 21 | 3 => 3 | 4 => 4 | 5 => 5 | 119 => 343 | 0 => 0 | 46 => 176 | 139 => 346 | 138 => 345 | n => n, fun | 3 => 1 | 4 => 2 | n => n⟩
def Tryz.lays271_ren : Go.Shelf.Ren := ⟨fun | 271 => 256 | 120 => 275 | 197 => 254 | 260 => 273 | n => n, fun | 9 => 9 | 21 => 21 | 3 => 3 | 4 => 4 | 5 => 5 | 105 => 316 | 119 => 343 | 0 => 0 | 46 => 176 | 139 => 346 | 138 => 345 | n => n, fun | 3 => 1 | 4 => 2 | n => n⟩
def Tryz.lays274_ren : Go.Shelf.Ren := ⟨fun | 274 => 298 | n => n, fun | 21 => 21 | 162 => 351 | 160 => 353 | 3 => 3 | 4 => 4 | 46 => 176 | 0 => 0 | 208 => 360 | 51 => 242 | 206 => 358 | n => n, fun | n => n⟩
def Tryz.lays275_ren : Go.Shelf.Ren := ⟨fun | 275 => 299 | n => n, fun | 3 => 3 | 21 => 21 | 160 => 353 | 0 => 0 | 208 => 360 | 206 => 358 | 4 => 4 | 51 => 242 | n => n, fun | n => n⟩
def Tryz.lays313_ren : Go.Shelf.Ren := ⟨fun | 313 => 292 | 274 => 298 | 275 => 299 | n => n, fun | 3 => 3 | 21 => 21 | 162 => 351 | 4 => 4 | 160 => 353 | 46 => 176 | 0 => 0 | 208 => 360 | 51 => 242 | 206 => 358 | n => n, fun | n => n⟩
def Tryz.lays262_ren : Go.Shelf.Ren := ⟨fun | 262 => 279 | 313 => 292 | 274 => 298 | 275 => 299 | n => n, fun | 3 => 3 | 21 => 21 | 162 => 351 | 203 => 349 | 4 => 4 | 160 => 353 | 46 => 176 | 0 => 0 | 208 => 360 | 51 => 242 | 206 => 358 | n => n, fun | 13 => 3 | n => n⟩
def Tryz.lays108_ren : Go.Shelf.Ren := ⟨fun | 108 => 174 | n => n, fun | 28 => 25 | 3 => 3 | 0 => 0 | 4 => 4 | n => n, fun | n => n⟩
def Tryz.lays107_ren : Go.Shelf.Ren := ⟨fun | 107 => 98 | 108 => 174 | n => n, fun | 28 => 25 | 3 => 3 | 4 => 4 | 0 => 0 | n => n, fun | n => n⟩
def Tryz.laysNm215_ren : Go.Shelf.Ren := ⟨fun | 15 => 89 | n => n, fun | 22 => 25 | 3 => 3 | 4 => 4 | n => n, fun | n => n⟩
def Tryz.laysNm220_ren : Go.Shelf.Ren := ⟨fun | 20 => 113 | n => n, fun | 22 => 25 | 3 => 3 | 4 => 4 | 0 => 0 | n => n, fun | n => n⟩
theorem Tryz.laysNm220 : Go.Proofs.Lays2.n20 Tryz.prog Tryz.laysNm220_ren := {
  mixed := by kernel_rfl
  f20 := Tryz.func113.trans (congrArg some (by kernel_rfl))
  t0 := Tryz.underlying0
  a0 := Tryz.isAgg0
  z0 := Tryz.sizeOf0
  v0 := Tryz.zeroValue0
  t3 := Tryz.underlying3
  a3 := Tryz.isAgg3
  z3 := Tryz.sizeOf3
  v3 := Tryz.zeroValue3
  t4 := Tryz.underlying4
  a4 := Tryz.isAgg4
  z4 := Tryz.sizeOf4
  v4 := Tryz.zeroValue4
  t22 := Tryz.underlying25
  a22 := Tryz.isAgg25
  z22 := Tryz.sizeOf25
  v22 := Tryz.zeroValue25
  i3 := by kernel_rfl }
open Go.RowKit Go.Lib Go.Sort in
/-- slices.Compact at []int: "Compact replaces consecutive runs of equal elements with a single copy. This is like the uniq command found on Unix. Compact modifies the contents of the slice s and returns the modified slice, which may have a smaller length. Compact zeroes the elements between the new length and the original length. The result preserves the nilness of s.": IT RETURNS THE SLICE CUT TO 'Lib.compact zs'; ITS CELLS HOLD 'Lib.compact zs', THEN ZERO VALUES up to the old length; all else is as it was, but for the count of draws. IN THE WORDS OF slices.Sort's CONTRACT ('Holds', 'putRow'): so the everyday 'slices.Sort(xs); xs = slices.Compact(xs)' goes from the one contract to the other. It asks 'zs.length ≤ cap' (every slice's: the reslicing 's[:k]' looks at it). Length 0, nil: '.._empty'. (LAID: no walk: one application.) -/
theorem Tryz.slices_Compact_int (blk off cap : Nat) (zs : List Int) (w : World) (hH : Holds (Value.int .i64) w blk off zs.toArray) (hsz : zs.length ≤ 9223372036854775807) (hcap : zs.length ≤ cap) :
    Calls Tryz.prog 113 #[.slice (some ⟨blk, off, none⟩) zs.length cap] w fun e w' => e = .returned (.slice (some ⟨blk, off, none⟩) (Lib.compact zs).length cap) ∧ ∃ q, w' = putRow (Value.int .i64) (Sort.ahead w q) blk off (Lib.compact zs ++ List.replicate (zs.length - (Lib.compact zs).length) 0).toArray := Any.slices_Compact_int Tryz.laysNm220 blk off cap zs w hH hsz hcap
open Go.RowKit Go.Lib Go.Sort in
/-- The same at a slice of length 0, a nil one too: it comes back as it is. (LAID: no walk: one application.) -/
theorem Tryz.slices_Compact_int_empty (a : Option Addr) (cap : Nat) (w : World) :
    Calls Tryz.prog 113 #[.slice a 0 cap] w fun e w' => e = .returned (.slice a 0 cap) ∧ w' = w := Any.slices_Compact_int_empty Tryz.laysNm220 a cap w
def Tryz.laysNm237_ren : Go.Shelf.Ren := ⟨fun | 37 => 82 | n => n, fun | 3 => 3 | 4 => 4 | n => n, fun | n => n⟩
def Tryz.laysNm231_ren : Go.Shelf.Ren := ⟨fun | 31 => 241 | 37 => 82 | n => n, fun | 3 => 3 | 4 => 4 | n => n, fun | n => n⟩
open Go.RowKit Go.Sort in
/-- .. and plain. (LAID: no walk: one application.) -/
theorem Tryz.slices_Sort_int_none (p : Option Addr) (cap : Nat) (w : World) :
    Calls Tryz.prog 90 #[.slice p 0 cap] w fun e w' => e = .returned (.tuple #[]) ∧ w' = w := Any.slices_Sort_int_none Tryz.lays189 p cap w
def Tryz.laysSlE041_f89_ren : Go.Shelf.Ren := ⟨fun | 41 => 89 | n => n, fun | 22 => 25 | 23 => 3 | 4 => 4 | n => n, fun | n => n⟩
end Go.Proofs
/- Chapter 2: the digest of a string: the walks. -/
namespace Go.Sx
open Go Go.Proofs Go.RowKit
theorem hwDI {G G2 : Prop} (x : G2) (hwq : Hold G2 → G := by
    intro hQq
    repeat' (first | apply HL.fold | apply HA.fold | apply HL.nil | apply HX.n_then | apply HC.seq | apply HC.region | refine HL.pa ?_ | refine HL.ga rfl ?_ | refine HL.na rfl ?_ | refine HL.nu rfl rfl ?_ | apply HC.block | apply HC.skip | apply HC.exit | apply HC.ret | apply HX.e_block | refine HX.e_other rfl ?_ | apply HX.e_then | apply HX.e_again | apply HX.n_block | apply HX.r_then | apply HX.r_block | apply HX.r_again | refine HC.cond_yes rfl ?_ | refine HC.cond_no rfl ?_ | refine HL.one (H1.ldb rfl memA rfl rfl ?_) | refine HC.cond rfl (fun hc => ?_) (fun hc => ?_) | refine HC.cond_b rfl (fun hc => ?_) (fun hc => ?_))
    exact hQq.get) : G := hwq ⟨x⟩
theorem digL_at (s : S8) : ∀ (i k : Nat), i < 8 → k < 4 → (digL s)[4 * i + k]? = some ((s.l.getD i 0) >>> UInt32.ofNat (24 - 8 * k)).toUInt8 := by
  intro i k hi hk
  match i, hi, k, hk with
  | 0, _, 0, _ | 0, _, 1, _ | 0, _, 2, _ | 0, _, 3, _ => rfl
  | 1, _, 0, _ | 1, _, 1, _ | 1, _, 2, _ | 1, _, 3, _ => rfl
  | 2, _, 0, _ | 2, _, 1, _ | 2, _, 2, _ | 2, _, 3, _ => rfl
  | 3, _, 0, _ | 3, _, 1, _ | 3, _, 2, _ | 3, _, 3, _ => rfl
  | 4, _, 0, _ | 4, _, 1, _ | 4, _, 2, _ | 4, _, 3, _ => rfl
  | 5, _, 0, _ | 5, _, 1, _ | 5, _, 2, _ | 5, _, 3, _ => rfl
  | 6, _, 0, _ | 6, _, 1, _ | 6, _, 2, _ | 6, _, 3, _ => rfl
  | 7, _, 0, _ | 7, _, 1, _ | 7, _, 2, _ | 7, _, 3, _ => rfl
def dgC (s : S8) (m : Nat) : List Value := row 32 fun q => b8 (if q < m then (digL s).getD q 0 else 0)
theorem dgC_set {s : S8} {i k : Nat} (hi : i < 8) (hk : k < 4) : (dgC s (4 * i + k)).set (4 * i + k) (b8 ((s.l.getD i 0) >>> UInt32.ofNat (24 - 8 * k)).toUInt8) = dgC s (4 * i + (k + 1)) := by
  have h := digL_at s i k hi hk
  unfold dgC
  rw [row_set]
  refine row_congr fun j _ => ?_
  by_cases e : j = 4 * i + k
  · subst e
    have e2 : (digL s).getD (4 * i + k) 0 = ((s.l.getD i 0) >>> UInt32.ofNat (24 - 8 * k)).toUInt8 := by rw [List.getD_eq_getElem?_getD, h]; rfl
    rw [if_pos rfl, if_pos (by omega), e2]
  · have : (j < 4 * i + (k + 1)) = (j < 4 * i + k) := by simp only [eq_iff_iff]; omega
    rw [if_neg e]; simp only [this]
theorem dgC_32 (s : S8) : dgC s 32 = ub (digL s) := rfl
attribute [local irreducible] WC WL WX POp Then Again Fn NX W1 WA WO QL RP RA Yld LoopAt HC HL HX HN H1 HA HO HQ HB HP A.blk A.grow A.rd A.obj A.mp AgainH CutH
attribute [local irreducible] mixW kL digL
set_option maxHeartbeats 1000000 in
theorem digest_fn (s : S8) (w : World) : Fn Tryz.prog 183 #[.agg (ws s.l).toArray] w fun v w' => v = .string ⟨(digL s).toArray⟩ ∧ Ext w w' := by
  refine enterH (l := [_]) rfl Tryz.ntmps183 rfl ?_
  refine hwDI ?_
  refine HL.one (H1.boxAgg (cs := ws s.l) rfl rfl (fun b1 => ?_))
  refine hwDI ?_
  refine HL.one (H1.alloc (cs := dgC s 0) (by kernel_rfl) rfl (fun b3 => ?_))
  refine hwDI ?_
  refine HL.one (H1.ldAgg (vs := ws s.l) rfl memA rfl (fun i v h => by rwa [Nat.zero_add]) rfl ?_)
  refine hwDI ?_
  refine HC.loop (α := Nat) (fun i => [(3, .pointer (some ⟨b3, 0, none⟩)), (7, .agg (ws s.l).toArray), (8, zv (i : Int))]) (fun i => [A.blk b3 (dgC s (4 * i)) 312]) (fun i => i ≤ 8) (fun i => 8 - i) 0 (Nat.zero_le _) esA (by repeat (first | exact Hs.nil _ | (refine Hs.cons pickA ?_))) ?_
  rintro i hi
  by_cases hlt : i < 8
  · have hx := S8.get (s := s) hlt
    refine hwDI ?_
    refine HL.pa ?_ (POp.index_agg (v := w32 (s.l.getD i 0)) rfl rfl rfl hlt hx)
    refine hwDI ?_
    refine HC.loop (α := Nat) (fun k => [(3, .pointer (some ⟨b3, 0, none⟩)), (7, .agg (ws s.l).toArray), (8, zv (i : Int)), (4, zv (i : Int)), (5, w32 (s.l.getD i 0)), (12, zv (k : Int))]) (fun k => [A.blk b3 (dgC s (4 * i + k)) 312]) (fun k => k ≤ 4) (fun k => 4 - k) 0 (Nat.zero_le _) esA (Hs.refl _) ?_
    rintro k hk
    by_cases hlt2 : k < 4
    · have hset := dgC_set (s := s) hlt hlt2
      refine hwDI ?_
      refine HL.pa ?_ (POp.shr32 (s := 24 - 8 * k) rfl rfl (by omega) (by omega))
      refine hwDI ?_
      rw [show (4 * (i : Int) + (k : Int)).toNat = 4 * i + k from by omega]
      refine HL.one (H1.st (b := b3) rfl rfl (by intro _ h; cases h) (by intro _ h; cases h) rplA (by unfold dgC; rw [row_len]; omega) ?_)
      rw [hset]
      refine hwDI ?_
      exact HX.again (k + 1) hlt2 (by show 4 - (k + 1) < 4 - k; omega) esA (Hs.refl _)
    · obtain rfl : k = 4 := by omega
      refine hwDI ?_
      exact HX.again (i + 1) hlt (by show 8 - (i + 1) < 8 - i; omega) esA (Hs.refl _)
  · obtain rfl : i = 8 := by omega
    rw [dgC_32]
    refine hwDI ?_
    refine HL.pa ?_ (POp.arr_all rfl)
    refine hwDI ?_
    refine HL.one (H1.bstrB (ys := digL s) (b := b3) (c := 32) (by rw [digL_len]; rfl) memA rfl ?_)
    refine hwDI ?_
    exact HX.ret1 rfl rfl fun w' hM => ⟨rfl, hM.ext⟩
theorem chunk_fn {n c bp : Nat} (w : World) : Fn Tryz.prog 181 #[.slice (some ⟨bp, 0, none⟩) n c, zv 64] w fun v w' => ∃ q : Nat × Nat, True ∧ v = .func (.func 246) #[] #[.pointer (some ⟨q.1, 0, none⟩), .pointer (some ⟨q.2, 0, none⟩)] ∧
    Mm w [A.blk q.2 [zv 64] 3, A.blk q.1 [.slice (some ⟨bp, 0, none⟩) n c] 148] w' := by
  refine enterH (l := [_, _]) rfl Tryz.ntmps181 rfl ?_
  refine hwDI ?_
  refine HL.one (H1.box rfl rfl rfl (fun b1 => ?_))
  refine hwDI ?_
  refine HL.one (H1.box rfl rfl rfl (fun b2 => ?_))
  refine hwDI ?_
  exact HX.ret1 rfl rfl fun w' hM => ⟨(b1, b2), trivial, rfl, hM⟩
set_option maxHeartbeats 1000000 in
theorem chunk1_fn {w0 : World} {K0 K1 : Atom} {Hq : Nat → List Atom} {b1 b2 bp c l : Nat} (nq : Nat) (hc : 64 * nq ≤ c) (hn : nq ≤ 100000)
    (hy : ∀ q, q < nq → ∀ w, Mm w0 (K0 :: K1 :: A.blk b2 [zv 64] 3 :: A.blk b1 [.slice (some ⟨bp, 0, none⟩) (64 * nq) c] 148 :: Hq q) w →
      Yld Tryz.prog l [.slice (some ⟨bp, 64 * q, none⟩) 64 64] w fun b w' => b = true ∧ ∃ _z : Unit, True ∧
        Mm w0 (K0 :: K1 :: A.blk b2 [zv 64] 3 :: A.blk b1 [.slice (some ⟨bp, 0, none⟩) (64 * nq) c] 148 :: Hq (q + 1)) w') :
    ∀ w, Mm w0 (K0 :: K1 :: A.blk b2 [zv 64] 3 :: A.blk b1 [.slice (some ⟨bp, 0, none⟩) (64 * nq) c] 148 :: Hq 0) w →
      Fn Tryz.prog 246 (.func (.yield l) #[] #[] :: [.pointer (some ⟨b1, 0, none⟩), .pointer (some ⟨b2, 0, none⟩)]).toArray w fun _ w' => ∃ _z : Unit, True ∧ Mm w0 (K0 :: K1 :: Hq nq) w' := by
  intro w hM
  refine enterK (l := [_, _, _]) hM rfl Tryz.ntmps246 rfl ?_
  refine hwDI ?_
  refine HC.loop (α := Nat) (fun q => [(0, .func (.yield l) #[] #[]), (1, .pointer (some ⟨b1, 0, none⟩)), (2, .pointer (some ⟨b2, 0, none⟩)), (4, zv ((64 * q : Nat) : Int))]) (fun q => K0 :: K1 :: A.blk b2 [zv 64] 3 :: A.blk b1 [.slice (some ⟨bp, 0, none⟩) (64 * nq) c] 148 :: Hq q)
    (fun q => q ≤ nq) (fun q => nq - q) 0 (Nat.zero_le _) esA (Hs.refl _) ?_
  rintro q hq
  by_cases hlt : q < nq
  · have hlt' : ((64 * q : Nat) : Int) < ((64 * nq : Nat) : Int) := by omega
    have hmin : min (64 : Int) (((64 * nq - ((64 * q : Nat) : Int).toNat : Nat)) : Int) = 64 := by omega
    refine hwDI ?_
    refine HC.quietS [(some 13, [2], []), (some 14, [1], []), (some 15, [4], []), (some 16, [14, 15], [1, 2]), (some 17, [16], [3]), (some 18, [13, 17], [0, 4]), (some 5, [18], [5, 0, 1, 2, 3, 4, 5])] (by kernel_rfl) (by kernel_rfl) (by kernel_rfl) ?_
    repeat' (first | refine HQ.pa ?_ | refine HQ.ga rfl ?_ | refine HQ.na rfl ?_ | refine HQ.nu rfl ?_ | refine HQ.ldb rfl memA rfl rfl ?_)
    refine HQ.pa ?_ (POp.cut_l rfl rfl (by omega) (by omega) (by omega))
    repeat' (first | refine HQ.pa ?_ | refine HQ.ga rfl ?_ | refine HQ.na rfl ?_ | refine HQ.nu rfl ?_ | refine HQ.ldb rfl memA rfl rfl ?_)
    rw [hmin]
    refine HQ.nil ?_
    refine hwDI ?_
    refine HL.pa ?_ (POp.cut3 (lo := 64 * q) (hi := 64 * q + 64) (mx := 64 * q + 64) rfl rfl rfl rfl rfl (by omega) (by omega) (by omega) (by omega) (by omega) (by omega))
    rw [show 64 * q + 64 - 64 * q = 64 from by omega, Nat.zero_add, Nat.mul_one]
    refine HL.one (H1.yield (vs := [.slice (some ⟨bp, 64 * q, none⟩) 64 64]) rfl rfl rfl (hy q hlt) ?_)
    rintro - -
    refine hwDI ?_
    exact HX.again (q + 1) hlt (by show nq - (q + 1) < nq - q; omega) (by refine ⟨rfl, rfl, rfl, ?_, trivial⟩; show some (zv _) = some (zv _); congr 2) (Hs.refl _)
  · obtain rfl : q = nq := by omega
    refine hwDI ?_
    exact HX.end0 rfl fun w' hM => ⟨(), trivial, hM.sub (Hs.cons Pick.here (Hs.cons Pick.here (Hs.refl _).skip.skip))⟩
end Go.Sx
/- Chapter 2: Sum and Chain: the walks. -/
namespace Go.Sx
open Go Go.Proofs Go.RowKit
theorem ub_app1 (ys : List UInt8) (b : UInt8) : ub ys ++ [b8 b] = ub (ys ++ [b]) := by simp [ub]
theorem ub_mid (ys : List UInt8) (i : Nat) : ((ub ys).drop i).take 64 = ub ((ys.drop i).take 64) := by simp [ub, List.map_drop, List.map_take]
theorem rep_snoc (L : List UInt8) (j : Nat) : L ++ List.replicate j 0 ++ [(0 : UInt8)] = L ++ List.replicate (j + 1) 0 := by
  rw [List.append_assoc, List.replicate_succ']
theorem rng_snoc (L : List UInt8) (n j : Nat) : L ++ (List.range j).map (shaT n) ++ [shaT n j] = L ++ (List.range (j + 1)).map (shaT n) := by
  rw [List.append_assoc, List.range_succ, List.map_append]; rfl
attribute [local irreducible] WC WL WX POp Then Again Fn NX W1 WA WO QL RP RA Yld LoopAt HC HL HX HN H1 HA HO HQ HB HP A.blk A.grow A.rd A.obj A.mp AgainH CutH
attribute [local irreducible] A.gb kL digL shaI shaT
set_option maxHeartbeats 2000000 in
theorem sum_fn (s : ByteArray) (hs : s.size ≤ 900000) (w : World) (hG : RoundG w) : Fn Tryz.prog 105 #[.string s] w fun v w' => v = .string (sumS s) ∧ Ext w w' := by
  have hlen : s.data.toList.length = s.size := by rw [Array.length_toList]; rfl
  obtain ⟨n, hn⟩ : ∃ n, n = s.size := ⟨_, rfl⟩
  have hz : shaZ n < 64 := by unfold shaZ; omega
  have hP : shaP s.data.toList = s.data.toList ++ [128] ++ List.replicate (shaZ n) 0 ++ (List.range 8).map (shaT n) := by unfold shaP; rw [hlen, hn]
  have hPl := shaP_len s.data.toList
  have hPm := shaP_mod s.data.toList
  rw [hlen, ← hn] at hPl
  refine enterMH (l := [_]) rfl Tryz.ntmps105 rfl ?_
  refine hwDI ?_
  refine HL.build (cs := ws shaI.l) rfl (by kernel_rfl) rfl ?_
  refine hwDI ?_
  refine HL.one (H1.alloc (cs := List.replicate 8 (.int .u32 0)) (by kernel_rfl) rfl (fun b3 => ?_))
  refine hwDI ?_
  refine HL.one (H1.stAgg (cs := List.replicate 8 (.int .u32 0)) rfl rfl rfl ws_one rplA rfl ?_)
  refine hwDI ?_
  refine HL.one (H1.sgb (e := 5) rfl rfl (fun bp0 c0 => ?_))
  rw [← hn]
  refine hwDI ?_
  refine HL.one (H1.lit (cs := [b8 128]) rfl rfl rfl rfl rfl rfl (fun b9 => ?_))
  refine hwDI ?_
  refine HL.one (H1.appG1 (u := b8 128) rfl rfl (fun _ _ => by first | ((repeat (first | with_reducible exact Rpl.here | with_reducible apply Rpl.there)); done) | (repeat (first | exact Rpl.here | apply Rpl.there))) memA rfl rfl (by omega) rfl rfl (fun bp1 c1 => ?_))
  rw [ub_app1]
  refine hwDI ?_
  refine HC.loop (α := Nat × Nat × Nat) (fun z => [(0, .string s), (3, .pointer (some ⟨b3, 0, none⟩)), (4, .slice (some ⟨z.2.1, 0, none⟩) (n + 1 + z.1) z.2.2)])
    (fun z => [A.blk b3 (ws shaI.l) 255, A.gb 5 z.2.1 z.2.2 (n + 1 + z.1) (ub (s.data.toList ++ [128] ++ List.replicate z.1 0))]) (fun z => z.1 ≤ shaZ n) (fun z => shaZ n - z.1) (0, bp1, c1) (Nat.zero_le _) esA
    (by show Hs _ [_, A.gb _ bp1 c1 (n + 1) (ub (s.data.toList ++ [128] ++ []))]; rw [List.append_nil]; exact Hs.cons (Pick.there (Pick.there Pick.here)) (Hs.cons (Pick.there Pick.here) (Hs.nil _))) ?_
  rintro ⟨j, bp, c⟩ hj
  dsimp only at hj ⊢
  by_cases hlt : j < shaZ n
  · have hne : ¬ (((n + 1 + j : Nat) : Int) % 64 = 56) := by unfold shaZ at hlt; omega
    refine hwDI ?_
    refine HL.one (H1.lit (cs := [b8 0]) rfl rfl rfl rfl rfl rfl (fun b9 => ?_))
    refine hwDI ?_
    refine HL.one (H1.appG1 (u := b8 0) rfl rfl (fun _ _ => by first | ((repeat (first | with_reducible exact Rpl.here | with_reducible apply Rpl.there)); done) | (repeat (first | exact Rpl.here | apply Rpl.there))) memA rfl rfl (by omega) rfl rfl (fun bp2 c2 => ?_))
    rw [ub_app1, rep_snoc]
    refine hwDI ?_
    exact HX.again (j + 1, bp2, c2) hlt (by show shaZ n - (j + 1) < shaZ n - j; omega) esA (Hs.cons (Pick.there Pick.here) (Hs.cons (Pick.there Pick.here) (Hs.nil _)))
  · obtain rfl : j = shaZ n := by omega
    have hne : ((n + 1 + shaZ n : Nat) : Int) % 64 = 56 := by unfold shaZ; omega
    refine hwDI ?_
    refine HC.loop (α := Nat × Nat × Nat) (fun z => [(0, .string s), (3, .pointer (some ⟨b3, 0, none⟩)), (4, .slice (some ⟨z.2.1, 0, none⟩) (n + 1 + shaZ n + z.1) z.2.2), (5, zv (7 - (z.1 : Int)))])
      (fun z => [A.blk b3 (ws shaI.l) 255, A.gb 5 z.2.1 z.2.2 (n + 1 + shaZ n + z.1) (ub (s.data.toList ++ [128] ++ List.replicate (shaZ n) 0 ++ (List.range z.1).map (shaT n)))]) (fun z => z.1 ≤ 8) (fun z => 8 - z.1) (0, bp, c) (Nat.zero_le _) esA
      (by show Hs _ [_, A.gb _ bp c (n + 1 + shaZ n) (ub (s.data.toList ++ [128] ++ List.replicate (shaZ n) 0 ++ []))]; rw [List.append_nil]; exact Hs.refl _) ?_
    rintro ⟨k, bp2, c2⟩ hk
    dsimp only at hk ⊢
    by_cases hlt2 : k < 8
    · have hge : (0 : Int) ≤ 7 - (k : Int) := by omega
      refine hwDI ?_
      rw [← hn]
      refine hwDI ?_
      refine HL.pa ?_ (POp.shr (a := 8 * n) (b := 8 * (7 - k)) rfl rfl (by omega) (by omega) (by omega))
      refine hwDI ?_
      refine HL.one (H1.lit (cs := [b8 (shaT n k)]) rfl rfl (by unfold shaT; rfl) rfl rfl rfl (fun b9 => ?_))
      refine hwDI ?_
      refine HL.one (H1.appG1 (u := b8 (shaT n k)) rfl rfl (fun _ _ => by first | ((repeat (first | with_reducible exact Rpl.here | with_reducible apply Rpl.there)); done) | (repeat (first | exact Rpl.here | apply Rpl.there))) memA rfl rfl (by omega) rfl rfl (fun bp3 c3 => ?_))
      rw [ub_app1, rng_snoc]
      refine hwDI ?_
      refine HX.again (k + 1, bp3, c3) hlt2 (by show 8 - (k + 1) < 8 - k; omega) ⟨rfl, rfl, rfl, ?_, trivial⟩ (Hs.cons (Pick.there Pick.here) (Hs.cons (Pick.there Pick.here) (Hs.nil _)))
      show some (zv _) = some (zv _)
      congr 2
      show (7 - (k : Int)) - 1 = 7 - ((k + 1 : Nat) : Int)
      omega
    · obtain rfl : k = 8 := by omega
      have hge : ¬ ((0 : Int) ≤ 7 - ((8 : Nat) : Int)) := by omega
      obtain ⟨nq, hq⟩ : ∃ nq, 64 * nq = n + 1 + shaZ n + 8 := ⟨(n + 1 + shaZ n + 8) / 64, by omega⟩
      have hnq : nq = (shaP s.data.toList).length / 64 := by rw [hPl]; omega
      rw [← hP, ← hq]
      have hsum : sumS s = ⟨(digL (sums (shaP s.data.toList) nq)).toArray⟩ := by unfold sumS sumL; rw [hnq]
      rw [hsum]
      rw [← hq] at hPl
      generalize shaP s.data.toList = Pd at hPl
      refine hwDI ?_
      refine HL.one (H1.callz (vs := [_, zv 64]) rfl rfl (fun w' _ => chunk_fn (n := 64 * nq) (c := c2) (bp := bp2) w') ?_)
      rintro ⟨q1, q2⟩ -
      dsimp only
      refine hwDI ?_
      refine HC.sub [(3, .pointer (some ⟨b3, 0, none⟩)), (34, .func (.func 246) #[] #[.pointer (some ⟨q1, 0, none⟩), .pointer (some ⟨q2, 0, none⟩)])]
        (A.blk q2 [zv 64] 3 :: A.blk q1 [.slice (some ⟨bp2, 0, none⟩) (64 * nq) c2] 148 :: [A.blk b3 (ws (sums Pd 0).l) 255, A.gb 5 bp2 c2 (64 * nq) (ub Pd)]) ?_ esA (by repeat (first | exact Hs.nil _ | (refine Hs.cons pickA ?_)))
      refine HC.rangeFunc (α := Unit) (lb := [.pointer (some ⟨q1, 0, none⟩), .pointer (some ⟨q2, 0, none⟩)]) (fun _ => [A.blk b3 (ws (sums Pd nq).l) 255, A.gb 5 bp2 c2 (64 * nq) (ub Pd)]) (fun _ => True) rfl ?_ ?_
      · intro D l L hL w1 hM1
        have hc2 : 64 * nq ≤ c2 := by
          obtain ⟨_, _, _, _, h, _⟩ := hM1.gb (e := 5) (b := bp2) (c := c2) (n := 64 * nq) (xs := ub Pd) memA
          exact h
        refine chunk1_fn (Hq := fun q => [A.blk b3 (ws (sums Pd q).l) 255, A.gb 5 bp2 c2 (64 * nq) (ub Pd)]) nq hc2 (by omega) ?_ w1 hM1
        intro q hqlt
        refine Yld.ofH hL memA rfl rfl ?_
        dsimp only [List.zip_cons_cons, List.zip_nil_right, putAll]
        refine hwDI ?_
        refine HX.ra hL rplA ?_
        refine hwDI ?_
        have hl64 : ((Pd.drop (64 * q)).take 64).length = 64 := by rw [List.length_take, List.length_drop]; omega
        refine HL.one (H1.callk (α := Unit) (V := fun _ => .tuple #[]) (I := fun _ => True)
          (H' := fun _ => A.blk b3 (ws (sums Pd (q + 1)).l) 255 :: [L .busy none, A.dfr D, A.blk q2 [zv 64] 3, A.blk q1 [.slice (some ⟨bp2, 0, none⟩) (64 * nq) c2] 148, A.gb 5 bp2 c2 (64 * nq) (ub Pd)])
          (vs := [.pointer (some ⟨b3, 0, none⟩), .slice (some ⟨bp2, 64 * q, none⟩) 64 64]) rfl rfl (fun w' hM => ?_) ?_)
        · refine (add_fn (H := [L .busy none, A.dfr D, A.blk q2 [zv 64] 3, A.blk q1 [.slice (some ⟨bp2, 0, none⟩) (64 * nq) c2] 148, A.gb 5 bp2 c2 (64 * nq) (ub Pd)]) (sums Pd q) ((Pd.drop (64 * q)).take 64) hl64 hG
            (hM.sub (Hs.cons (Pick.there (Pick.there (Pick.there (Pick.there Pick.here)))) (Hs.refl _))) (fun w2 hM2 => ?_)).mono fun v w2 h => ⟨(), trivial, h⟩
          have := gb_rd hM2 (e := 5) (b := bp2) (c := c2) (n := 64 * nq) (xs := ub Pd) (off := 64 * q) (m := 64) (c2 := 64) memA (by omega) (Nat.le_refl _)
          rwa [ub_mid] at this
        rintro - -
        refine hwDI ?_
        refine HX.rp_n hL rplA fun w' hM => ⟨rfl, (), trivial, ?_⟩
        exact hM.sub (Hs.cons (Pick.there Pick.here) (Hs.cons (Pick.there Pick.here) (Hs.cons (Pick.there Pick.here) (Hs.cons (Pick.there Pick.here) (Hs.refl _)))))
      · rintro D - -
        refine hwDI ?_
        refine HL.one (H1.ldAgg (vs := ws (sums Pd nq).l) rfl memA rfl (fun i v h => by rwa [Nat.zero_add]) rfl ?_)
        refine hwDI ?_
        refine HL.one (H1.callx (vs := [_]) rfl rfl (fun w' _ => digest_fn (sums Pd nq) w') ?_)
        refine hwDI ?_
        exact HX.retM1 rfl rfl Pick.here fun w' hM => ⟨rfl, hM.ext⟩
end Go.Sx
/- Chapter 2: marked digests; Chain: the walks. -/
namespace Go.Sx
open Go Go.Proofs Go.RowKit
theorem joinB_fn (c b off : Nat) (l : List ByteArray) (w : World) (hR : Rd w (.slice (some ⟨b, off, none⟩) l.length c) (strs l)) (hb : b < w.heap.size) (hl : l.length ≤ 100) (hc : l.length ≤ c) (hs : (catS l).size ≤ 1000000) :
    Fn Tryz.prog 187 #[.slice (some ⟨b, off, none⟩) l.length c, .string (ByteArray.mk #[])] w fun v w' => v = .string (catS l) ∧ Ext w w' := by
  have hlen : (Lib.join (l.map (·.data.toList)) (ByteArray.mk #[]).data.toList).length = (catS l).size := by
    rw [← join_empty l]; rfl
  have := Tryz.strings_Join b off c l (ByteArray.mk #[]) w (fun j x hx => hR.cell (by simp [strs, hx])) hb (by omega) hc (by omega)
  refine Calls.mono this ?_
  rintro e w' ⟨rfl, h2⟩
  exact ⟨_, rfl, by rw [join_empty], h2⟩
def mkB (m : UInt8) : ByteArray := ByteArray.mk #[m]
def markS (m : UInt8) (l : List ByteArray) : ByteArray := sumS (mkB m ++ catS l)
def chainS (h r : ByteArray) : ByteArray := markS 2 [h, r]
theorem markS_size (m : UInt8) (l : List ByteArray) : (markS m l).size = 32 := sumS_size _
theorem chainS_size (h r : ByteArray) : (chainS h r).size = 32 := sumS_size _
theorem catS_2 (a b : ByteArray) : (catS [a, b]).size = a.size + b.size := by
  show ((a.data.toList ++ (b.data.toList ++ []) : List UInt8).toArray).size = _
  rw [List.size_toArray, List.append_nil, List.length_append, Array.length_toList, Array.length_toList]; rfl
theorem catS_1 (a : ByteArray) : (catS [a]).size = a.size := by
  show ((a.data.toList ++ [] : List UInt8).toArray).size = _
  rw [List.size_toArray, List.append_nil, Array.length_toList]; rfl
theorem mkB_size (m : UInt8) (s : ByteArray) : (mkB m ++ s).size = 1 + s.size := by
  rw [ByteArray.size_append]; rfl
attribute [local irreducible] WC WL WX POp Then Again Fn NX W1 WA WO QL RP RA Yld LoopAt HC HL HX HN H1 HA HO HQ HB HP A.blk A.grow A.rd A.obj A.mp AgainH CutH
attribute [local irreducible] sumS
theorem marked_fn (m : ByteArray) (w : World) : Fn Tryz.prog 110 #[.string m] w fun v w' => ∃ b : Nat, True ∧ v = .func (.func 186) #[] #[.pointer (some ⟨b, 0, none⟩)] ∧ Mm w [A.blk b [.string m] 9] w' := by
  refine enterH (l := [_]) rfl Tryz.ntmps110 rfl ?_
  refine hwDI ?_
  refine HL.one (H1.box rfl rfl rfl (fun b1 => ?_))
  refine hwDI ?_
  exact HX.ret1 rfl rfl fun w' hM => ⟨b1, trivial, rfl, hM⟩
theorem marked1_fn {b1 b2 : Nat} (m : UInt8) (l : List ByteArray) (w : World) (hG : RoundG w) (h1 : w.cell? ⟨b1, 0, none⟩ = some (.string (mkB m))) (h2 : Rd w (.slice (some ⟨b2, 0, none⟩) l.length l.length) (strs l)) (hb : b2 < w.heap.size) (hl : l.length ≤ 100) (hs : (catS l).size ≤ 800000) :
    Fn Tryz.prog 186 #[.slice (some ⟨b2, 0, none⟩) l.length l.length, .pointer (some ⟨b1, 0, none⟩)] w fun v w' => v = .string (markS m l) ∧ Ext w w' := by
  have hsz := mkB_size m (catS l)
  have hm1 : (mkB m).size = 1 := rfl
  refine enterH (l := [_, _]) rfl Tryz.ntmps186 rfl ?_
  refine hwDI ?_
  refine HC.quietS [(some 4, [1], []), (some 5, [0], []), (some 6, [5], [1]), (some 7, [4, 6], [0, 2]), (some 8, [7], [3, 2]), (some 3, [8], [4, 4, 0, 1, 2, 3, 4])] (by kernel_rfl) (by kernel_rfl) (by kernel_rfl) ?_
  refine HQ.ld rfl (fun w' hM => cell_ext hM.ext h1) rfl ?_
  repeat' (first | refine HQ.pa ?_ | refine HQ.ga rfl ?_ | refine HQ.na rfl ?_ | refine HQ.nu rfl ?_ | refine HQ.ldb rfl memA rfl rfl ?_)
  refine HQ.call (vs := [.slice (some ⟨b2, 0, none⟩) l.length l.length, .string (ByteArray.mk #[])]) rfl rfl (fun w' hM => joinB_fn _ _ _ l w' (h2.ext hM.ext) (Nat.lt_of_lt_of_le hb hM.ext.size) hl (Nat.le_refl _) (by omega)) ?_
  repeat' (first | refine HQ.pa ?_ | refine HQ.ga rfl ?_ | refine HQ.na rfl ?_ | refine HQ.nu rfl ?_ | refine HQ.ldb rfl memA rfl rfl ?_)
  refine HQ.call (vs := [_]) rfl rfl (fun w' hM => sum_fn (mkB m ++ catS l) (by omega) w' (hG.ext hM.ext)) ?_
  repeat' (first | refine HQ.pa ?_ | refine HQ.ga rfl ?_ | refine HQ.na rfl ?_ | refine HQ.nu rfl ?_ | refine HQ.ldb rfl memA rfl rfl ?_)
  refine HQ.nil ?_
  refine hwDI ?_
  exact HX.ret1 rfl rfl fun w' hM => ⟨rfl, hM.ext⟩
end Go.Sx
/- Plain, chapters 1 and 26: numbers and strings that are read back; a journal's content. -/
namespace Go.Sx
open Go
def unz (z : Nat) : Int := if z % 2 = 0 then ((z / 2 : Nat) : Int) else -((z / 2 : Nat) : Int) - 1
/-- A number that begins at p, from its byte i on; z: what was read before. -/
def decG (s : List UInt8) (p i z : Nat) : Option (Nat × Nat) :=
  if h : i < 9 then
    if p + i < s.length then
      if 128 ≤ (s.getD (p + i) 0).toNat then decG s p (i + 1) (z + (s.getD (p + i) 0).toNat % 128 * 2 ^ (7 * i))
      else if ((s.getD (p + i) 0).toNat = 0 ∧ 0 < i) ∨ unz (z + (s.getD (p + i) 0).toNat % 128 * 2 ^ (7 * i)) < -4611686018427387903 then none
      else some (z + (s.getD (p + i) 0).toNat % 128 * 2 ^ (7 * i), p + i + 1)
    else none
  else none
termination_by 9 - i
theorem decG_9 (s : List UInt8) (p z : Nat) : decG s p 9 z = none := by rw [decG, dif_neg (by decide)]
theorem decG_end {s : List UInt8} {p i z : Nat} (h : ¬ p + i < s.length) : decG s p i z = none := by
  rw [decG]
  by_cases hi : i < 9
  · rw [dif_pos hi, if_neg h]
  · rw [dif_neg hi]
theorem decG_on {s : List UInt8} {p i z : Nat} (hi : i < 9) (h : p + i < s.length) (hb : 128 ≤ (s.getD (p + i) 0).toNat) : decG s p i z = decG s p (i + 1) (z + (s.getD (p + i) 0).toNat % 128 * 2 ^ (7 * i)) := by
  rw [decG, dif_pos hi, if_pos h, if_pos hb]
theorem decG_no {s : List UInt8} {p i z : Nat} (hi : i < 9) (h : p + i < s.length) (hb : ¬ 128 ≤ (s.getD (p + i) 0).toNat)
    (hn : ((s.getD (p + i) 0).toNat = 0 ∧ 0 < i) ∨ unz (z + (s.getD (p + i) 0).toNat % 128 * 2 ^ (7 * i)) < -4611686018427387903) : decG s p i z = none := by
  rw [decG, dif_pos hi, if_pos h, if_neg hb, if_pos hn]
theorem decG_yes {s : List UInt8} {p i z : Nat} (hi : i < 9) (h : p + i < s.length) (hb : ¬ 128 ≤ (s.getD (p + i) 0).toNat)
    (hn : ¬ (((s.getD (p + i) 0).toNat = 0 ∧ 0 < i) ∨ unz (z + (s.getD (p + i) 0).toNat % 128 * 2 ^ (7 * i)) < -4611686018427387903)) : decG s p i z = some (z + (s.getD (p + i) 0).toNat % 128 * 2 ^ (7 * i), p + i + 1) := by
  rw [decG, dif_pos hi, if_pos h, if_neg hb, if_neg hn]
theorem decG_le {s : List UInt8} {p : Nat} : ∀ (k i z : Nat), 9 - i ≤ k → ∀ {x : Nat × Nat}, decG s p i z = some x → p < x.2 ∧ x.2 ≤ s.length
  | 0, i, z, hk, x, h => by
    rw [decG, dif_neg (by omega)] at h; cases h
  | k + 1, i, z, hk, x, h => by
    rw [decG] at h
    split at h
    · split at h
      · split at h
        · exact decG_le k (i + 1) _ (by omega) h
        · split at h
          · cases h
          · simp only [Option.some.injEq] at h
            subst h
            exact ⟨by show p < p + i + 1; omega, by show p + i + 1 ≤ _; omega⟩
      · cases h
    · cases h
def decI (s : List UInt8) (p : Nat) : Option (Nat × Nat) := decG s p 0 0
/-- A string that begins at p. -/
def decS (s : List UInt8) (p : Nat) : Option (List UInt8 × Nat) :=
  match decI s p with
  | none => none
  | some (z, q) => if unz z < 0 ∨ unz z > 65536 ∨ unz z > ((s.length : Nat) : Int) - (q : Int) then none else some ((s.drop q).take (unz z).toNat, q + (unz z).toNat)
/-- What is kept of a journal: its records, its head, how much it takes. -/
structure Tp where
  recs : List ByteArray
  head : ByteArray
  size : Nat
/-- A record as it is stored. -/
def outL (h r : ByteArray) : List UInt8 := 1 :: (putN r.size ++ r.data.toList ++ (chainS h r).data.toList)
def outB (h r : ByteArray) : ByteArray := ⟨(outL h r).toArray⟩
def Tp.add (t : Tp) (r : ByteArray) : Tp := ⟨t.recs ++ [r], chainS t.head r, t.size + (outL t.head r).length⟩
def mkBA (l : List UInt8) : ByteArray := ⟨l.toArray⟩
theorem outL_pos (h r : ByteArray) : 0 < (outL h r).length := by unfold outL; rw [List.length_cons]; omega
/-- A content that is read; none: it is damaged. -/
def loadF (s : List UInt8) (t : Tp) : Option Tp :=
  if _h : t.size < s.length ∧ s.getD t.size 0 ≠ 0 then
    if s.getD t.size 0 = 1 then
      match decS s (t.size + 1) with
      | none => none
      | some (r, q) => if q + 32 ≤ s.length ∧ outL t.head (mkBA r) = (s.drop t.size).take (q + 32 - t.size) then loadF s (t.add (mkBA r)) else none
    else none
  else some t
termination_by s.length - t.size
decreasing_by
  have := outL_pos t.head (mkBA r)
  show s.length - (t.size + (outL t.head (mkBA r)).length) < _
  omega
theorem loadF_step {s : List UInt8} {t : Tp} {r : List UInt8} {q : Nat} (h : t.size < s.length ∧ s.getD t.size 0 ≠ 0) (h1 : s.getD t.size 0 = 1) (hd : decS s (t.size + 1) = some (r, q))
    (hn : q + 32 ≤ s.length ∧ outL t.head (mkBA r) = (s.drop t.size).take (q + 32 - t.size)) : loadF s t = loadF s (t.add (mkBA r)) := by
  rw [loadF, dif_pos h, if_pos h1, hd]
  simp only
  rw [if_pos hn]
end Go.Sx
/- Plain, chapters 1 and 26: what was stored is read back. -/
namespace Go.Sx
open Go
theorem getD_drop {s r : List UInt8} {p : Nat} {b : UInt8} (h : s.drop p = b :: r) : p < s.length ∧ s.getD p 0 = b ∧ s.drop (p + 1) = r := by
  have h1 : p < s.length := by
    rcases Nat.lt_or_ge p s.length with h2 | h2
    · exact h2
    · rw [List.drop_of_length_le h2] at h; cases h
  rw [List.drop_eq_getElem_cons h1] at h
  injection h with h2 h3
  refine ⟨h1, ?_, h3⟩
  rw [List.getD_eq_getElem?_getD, List.getElem?_eq_getElem h1]
  exact h2
theorem drop_app {s a r : List UInt8} {p : Nat} (h : s.drop p = a ++ r) : s.drop (p + a.length) = r := by
  rw [← List.drop_drop, h, List.drop_left]
theorem drop_len {s a r : List UInt8} {p : Nat} (h : s.drop p = a ++ r) (ha : 0 < a.length) : s.length = p + a.length + r.length := by
  have := congrArg List.length h
  rw [List.length_drop, List.length_append] at this
  omega
theorem u8_nat {a : Nat} (h : a < 256) : (UInt8.ofNat a).toNat = a := by simp; omega
theorem decG_vint : ∀ (n v i z : Nat), v < 128 ^ (n + 1) → i + n < 9 → (0 < i → 0 < v) → ∀ {s rest : List UInt8} {p : Nat}, s.drop (p + i) = vint v ++ rest → 0 ≤ unz (z + v * 2 ^ (7 * i)) →
    decG s p i z = some (z + v * 2 ^ (7 * i), p + i + (vint v).length)
  | n, v, i, z, hv, hi, h0, s, rest, p, hs, hu => by
    by_cases h : v < 128
    · rw [vint_lt h] at hs ⊢
      obtain ⟨h1, h2, h3⟩ := getD_drop hs
      have h4 := u8_nat (show v < 256 by omega)
      have e : (s.getD (p + i) 0).toNat = v := by rw [h2, h4]
      have hmod : v % 128 = v := Nat.mod_eq_of_lt h
      rw [decG_yes (by omega) h1 (by omega) (by rw [e, hmod]; omega), e, hmod]; rfl
    · match n, hv, hi with
      | 0, hv, hi => omega
      | n + 1, hv, hi =>
        rw [vint_ge h] at hs ⊢
        obtain ⟨h1, h2, h3⟩ := getD_drop hs
        have h4 := u8_nat (show v % 128 + 128 < 256 by omega)
        have e : (s.getD (p + i) 0).toNat = v % 128 + 128 := by rw [h2, h4]
        have hmod : (v % 128 + 128) % 128 = v % 128 := by omega
        have hz : z + v % 128 * 2 ^ (7 * i) + v / 128 * 2 ^ (7 * (i + 1)) = z + v * 2 ^ (7 * i) := by
          have e2 : 2 ^ (7 * (i + 1)) = 128 * 2 ^ (7 * i) := by rw [Nat.mul_add, Nat.pow_add, Nat.mul_comm]
          rw [e2, Nat.add_assoc, ← Nat.mul_assoc, ← Nat.add_mul]
          congr 2
          omega
        rw [decG_on (by omega) h1 (by omega), e, hmod, decG_vint n (v / 128) (i + 1) _ (by rw [Nat.pow_succ] at hv; omega) (by omega) (by omega) h3 (by rw [hz]; exact hu), hz, List.length_cons]
        congr 2; omega
theorem unz_even (n : Nat) : unz (2 * n) = (n : Int) := by
  unfold unz
  rw [if_pos (by omega)]
  omega
theorem decI_putN {n : Nat} (hn : n ≤ 1099511627776) {s rest : List UInt8} {p : Nat} (h : s.drop p = putN n ++ rest) : decI s p = some (2 * n, p + (putN n).length) := by
  have := decG_vint 8 (2 * n) 0 0 (by omega) (by omega) (fun h => by omega) (s := s) (rest := rest) (p := p) h (by rw [Nat.mul_zero, Nat.pow_zero, Nat.mul_one, Nat.zero_add, unz_even]; omega)
  unfold decI
  rw [this, Nat.mul_zero, Nat.pow_zero, Nat.mul_one, Nat.zero_add]; rfl
theorem decS_putN {r : List UInt8} (hr : r.length ≤ 65536) {s rest : List UInt8} {p : Nat} (h : s.drop p = putN r.length ++ r ++ rest) : decS s p = some (r, p + (putN r.length).length + r.length) := by
  rw [List.append_assoc] at h
  have hd := decI_putN (by omega) h
  have h2 := drop_app h
  have hl := congrArg List.length h2
  rw [List.length_drop, List.length_append] at hl
  have hp : 0 < (putN r.length).length := by
    unfold putN; unfold vint; split <;> simp
  have hq := drop_len h hp
  rw [List.length_append] at hq
  unfold decS
  rw [hd]
  simp only [unz_even]
  rw [if_neg (by omega), h2, Int.toNat_natCast]
  simp
/-- Records as they are stored, behind one another. -/
def outsL (h : ByteArray) : List ByteArray → List UInt8
  | [] => []
  | r :: l => outL h r ++ outsL (chainS h r) l
def adds (t : Tp) (l : List ByteArray) : Tp := l.foldl Tp.add t
theorem adds_nil (t : Tp) : adds t [] = t := rfl
theorem adds_cons (t : Tp) (r : ByteArray) (l : List ByteArray) : adds t (r :: l) = adds (t.add r) l := rfl
theorem loadF_add {s rest : List UInt8} {t : Tp} {r : ByteArray} (hr : r.size ≤ 65536) (h : s.drop t.size = outL t.head r ++ rest) : loadF s t = loadF s (t.add r) := by
  have hrl : r.data.toList.length = r.size := by rw [Array.length_toList]; rfl
  have hcl : (chainS t.head r).data.toList.length = 32 := by rw [Array.length_toList]; exact chainS_size t.head r
  have hout : outL t.head r = 1 :: (putN r.size ++ r.data.toList ++ (chainS t.head r).data.toList) := rfl
  have hmk : mkBA r.data.toList = r := by cases r; rfl
  rw [hout, List.cons_append] at h
  obtain ⟨h1, h2, h3⟩ := getD_drop h
  have h3' : s.drop (t.size + 1) = putN r.data.toList.length ++ r.data.toList ++ ((chainS t.head r).data.toList ++ rest) := by rw [h3, hrl]; simp
  have hd := decS_putN (by omega) h3'
  have hpr : (putN r.data.toList.length).length = (putN r.size).length := by rw [hrl]
  have hlen := congrArg List.length h3
  simp only [List.length_drop, List.length_append] at hlen
  have hol : (outL t.head r).length = 1 + (putN r.size).length + r.size + 32 := by rw [hout]; simp only [List.length_cons, List.length_append]; omega
  have hstep := loadF_step (t := t) ⟨h1, by rw [h2]; decide⟩ h2 hd ⟨by omega, ?_⟩
  · rw [hmk] at hstep; exact hstep
  · rw [hmk, h, ← List.cons_append, ← hout, show t.size + 1 + (putN r.data.toList.length).length + r.data.toList.length + 32 - t.size = (outL t.head r).length from by rw [hol, hrl]; omega, List.take_left]
def isZero (l : List UInt8) : Bool := l.all (· == 0)
end Go.Sx
/- Chapter 1: numbers and strings that are read back: the walks. -/
namespace Go.Sx
open Go Go.Proofs Go.RowKit
theorem bits_and_u8 (a b : Nat) (ha : a < 256) (hb : b < 256) : bits .and .u8 (a : Int) (b : Int) = ((a &&& b : Nat) : Int) := by
  show IntKind.u8.wrap (((BitVec.ofInt 8 a &&& BitVec.ofInt 8 b).toNat : Nat) : Int) = _
  have h1 : (BitVec.ofInt 8 (a : Int)).toNat = a := by simp; omega
  have h2 : (BitVec.ofInt 8 (b : Int)).toNat = b := by simp; omega
  have h3 : a &&& b < 256 := Nat.lt_of_le_of_lt Nat.and_le_left ha
  rw [BitVec.toNat_and, h1, h2]
  exact wrap_u8 (by omega) (by omega)
theorem POp.and8 {P : Program} {N : Nat} {ds : List Deferred} {E : Env} {t t' ty : TypeId} {x y : Operand} {m n : Int} {a b : Nat} (hx : Env.ev E x = some (.int .u8 m)) (hy : Env.ev E y = some (.int .u8 n)) (em : m = (a : Int)) (en : n = (b : Int)) (h1 : a < 256) (h2 : b < 256) :
    POp P N ds E (.binOp .and t x y t') ty (.int .u8 ((a &&& b : Nat) : Int)) := POp.bin hx hy guard_int fun w => by
  subst em; subst en
  rw [binOp_and, intBits_and, bits_and_u8 a b h1 h2]; rfl
theorem bits_zz {a : Nat} (ha : a < 9223372036854775808) : bits .xor .i64 (a : Int) (-1) = -(a : Int) - 1 := by
  show IntKind.i64.wrap (((BitVec.ofInt 64 a ^^^ BitVec.ofInt 64 (-1)).toNat : Nat) : Int) = _
  rw [show BitVec.ofInt 64 (-1) = BitVec.allOnes 64 from by decide, BitVec.xor_allOnes]
  have h1 : (BitVec.ofInt 64 (a : Int)).toNat = a := ofInt_toNat a (by omega)
  rw [BitVec.toNat_not, h1]
  simp [IntKind.wrap, IntKind.bits, IntKind.signed]
  omega
theorem POp.zz {P : Program} {N : Nat} {ds : List Deferred} {E : Env} {t t' ty : TypeId} {x y : Operand} {z : Nat} (hx : Env.ev E x = some (zv ((z / 2 : Nat) : Int))) (hy : Env.ev E y = some (zv (-((z % 2 : Nat) : Int)))) (hz : z < 18446744073709551616) :
    POp P N ds E (.binOp .xor t x y t') ty (zv (unz z)) := POp.bin hx hy guard_int fun w => by
  unfold unz
  by_cases h : z % 2 = 0
  · rw [if_pos h, h]
    have e : bits .xor .i64 ((z / 2 : Nat) : Int) (-((0 : Nat) : Int)) = ((z / 2 : Nat) : Int) := by
      have := bits_xor_nat (z / 2) 0 (by omega) (by omega)
      rw [Nat.xor_zero] at this
      exact this
    rw [binOp_xor, intBits_xor, e]; rfl
  · have h1 : z % 2 = 1 := by omega
    rw [if_neg h, h1]
    have e : bits .xor .i64 ((z / 2 : Nat) : Int) (-((1 : Nat) : Int)) = -((z / 2 : Nat) : Int) - 1 := bits_zz (by omega)
    rw [binOp_xor, intBits_xor, e]; rfl
theorem or_shl {z g k : Nat} (h : z < 2 ^ k) : z ||| (g <<< k) = z + g * 2 ^ k := by
  have e := Nat.two_pow_add_eq_or_of_lt (i := k) (b := z) h g
  rw [Nat.shiftLeft_eq, Nat.or_comm, Nat.mul_comm g, ← e, Nat.add_comm]
def intV : Option (Nat × Nat) → Value
  | some (z, q) => .tuple #[zv (unz z), zv (q : Int), zv 0]
  | none => .tuple #[zv 0, zv 0, zv 10]
def strV : Option (List UInt8 × Nat) → Value
  | some (r, q) => .tuple #[.string (mkBA r), zv (q : Int), zv 0]
  | none => .tuple #[.string (mkBA []), zv 0, zv 10]
theorem WX.ret3 {P : Program} {N : Nat} {E : Env} {w : World} {fn : Func} {t1 t2 t3 : Nat} {v1 v2 v3 : Value} {R : Value → World → Prop} (hr : fn.results = #[.tmp t1, .tmp t2, .tmp t3]) (h1 : Env.g E t1 = some v1) (h2 : Env.g E t2 = some v2) (h3 : Env.g E t3 = some v3) (h : R (.tuple #[v1, v2, v3]) w) :
    WX N [] .ret (bodyPost P fn (RetP R)) E w := fun a ha => by
  refine ⟨ha.defers, .tuple #[v1, v2, v3], ?_, ⟨_, rfl, h⟩⟩
  have e1 : a.tmps.getD t1 undef = v1 := by rw [Array.getD_eq_getD_getElem?, ha.get _ _ h1]; rfl
  have e2 : a.tmps.getD t2 undef = v2 := by rw [Array.getD_eq_getD_getElem?, ha.get _ _ h2]; rfl
  have e3 : a.tmps.getD t3 undef = v3 := by rw [Array.getD_eq_getD_getElem?, ha.get _ _ h3]; rfl
  have e1' : a.tmps[t1]?.getD undef = v1 := by simpa using e1
  have e2' : a.tmps[t2]?.getD undef = v2 := by simpa using e2
  have e3' : a.tmps[t3]?.getD undef = v3 := by simpa using e3
  simp [results, hr, e1', e2', e3']
attribute [local irreducible] WC WL WX POp Then Again Fn NX W1 WA WO QL RP RA Yld LoopAt HC HL HX HN H1 HA HO HQ HB HP A.blk A.grow A.rd A.obj A.mp AgainH CutH
attribute [local irreducible] unz
set_option maxHeartbeats 4000000 in
theorem int_fn (s : ByteArray) (p : Nat) (hp : p ≤ s.size) (hs : s.size ≤ 5000000) (w : World) : Fn Tryz.prog 195 #[.string s, zv (p : Int)] w fun v w' => v = intV (decI s.data.toList p) ∧ w = w' := by
  have hlen : s.data.toList.length = s.size := by rw [Array.length_toList]; rfl
  refine enter (l := [_, _]) rfl Tryz.ntmps195 rfl ?_
  repeat' (first | apply WL.fold | apply WA.fold | apply WL.nil | apply WX.n_then | apply WC.seq | apply WC.region | refine WL.pa ?_ | refine WL.ga rfl ?_ | refine WL.na rfl ?_ | refine WL.nu rfl rfl ?_ | apply WC.block | apply WC.skip | apply WC.exit | apply WC.ret | apply WX.e_block | refine WX.e_other rfl ?_ | apply WX.e_then | apply WX.e_again | apply WX.n_block | apply WX.r_then | apply WX.r_block | apply WX.r_again | refine WC.cond_yes rfl ?_ | refine WC.cond_no rfl ?_ | refine WC.cond rfl (fun hc => ?_) (fun hc => ?_) | refine WC.cond_b rfl (fun hc => ?_) (fun hc => ?_))
  refine WC.loop (α := Nat × Nat) (fun x => [(0, .string s), (1, zv (p : Int)), (7, .int .u64 (x.2 : Int)), (19, zv (x.1 : Int))])
    (fun x w' => w' = w ∧ x.1 ≤ 9 ∧ x.2 < 2 ^ (7 * x.1) ∧ decG s.data.toList p x.1 x.2 = decI s.data.toList p) (fun x => 9 - x.1) (0, 0) esA ⟨rfl, by omega, by decide, rfl⟩ ?_
  rintro ⟨i, z⟩ w' ⟨rfl, hi, hz, hd⟩
  dsimp only at hi hz hd ⊢
  by_cases hlt : i < 9
  · by_cases hin : p + i < s.size
    · have hin' : p + i < s.data.toList.length := by omega
      have hge : ¬ ((s.size : Int) ≤ (p : Int) + (i : Int)) := by omega
      obtain ⟨b, hb⟩ : ∃ b, b = (s.data.toList.getD (p + i) 0).toNat := ⟨_, rfl⟩
      have hbl : b < 256 := by rw [hb]; exact UInt8.toNat_lt _
      have hsb : sb s (p + i) = b := hb.symm
      have hpw : 2 ^ (7 * i) ≤ 2 ^ 56 := Nat.pow_le_pow_right (by decide) (by omega)
      have hmul : b % 128 * 2 ^ (7 * i) ≤ 127 * 2 ^ 56 := Nat.mul_le_mul (by omega) hpw
      have hand : b &&& 127 = b % 128 := Nat.and_two_pow_sub_one_eq_mod b 7
      have hor : z ||| (b % 128) <<< (7 * i) = z + b % 128 * 2 ^ (7 * i) := or_shl hz
      have hz2 : z + b % 128 * 2 ^ (7 * i) < 2 ^ (7 * (i + 1)) := by
        have e : 2 ^ (7 * (i + 1)) = 128 * 2 ^ (7 * i) := by rw [Nat.mul_add, Nat.pow_add, Nat.mul_comm]
        have h2 : b % 128 * 2 ^ (7 * i) ≤ 127 * 2 ^ (7 * i) := Nat.mul_le_mul_right _ (by omega)
        omega
      have hz3 : z + b % 128 * 2 ^ (7 * i) < 9223372036854775808 := by
        have h2 : 2 ^ (7 * (i + 1)) ≤ 2 ^ 63 := Nat.pow_le_pow_right (by decide) (by omega)
        omega
      have hshl : (b % 128) <<< (7 * i) < 18446744073709551616 := by rw [Nat.shiftLeft_eq]; omega
      have on := decG_on (s := s.data.toList) (p := p) (z := z) hlt hin'
      have no := decG_no (s := s.data.toList) (p := p) (z := z) hlt hin'
      have yes := decG_yes (s := s.data.toList) (p := p) (z := z) hlt hin'
      rw [← hb] at on no yes
      generalize hz' : z + b % 128 * 2 ^ (7 * i) = z' at hor hz2 hz3 on no yes
      repeat' (first | apply WL.fold | apply WA.fold | apply WL.nil | apply WX.n_then | apply WC.seq | apply WC.region | refine WL.pa ?_ | refine WL.ga rfl ?_ | refine WL.na rfl ?_ | refine WL.nu rfl rfl ?_ | apply WC.block | apply WC.skip | apply WC.exit | apply WC.ret | apply WX.e_block | refine WX.e_other rfl ?_ | apply WX.e_then | apply WX.e_again | apply WX.n_block | apply WX.r_then | apply WX.r_block | apply WX.r_again | refine WC.cond_yes rfl ?_ | refine WC.cond_no rfl ?_ | refine WC.cond rfl (fun hc => ?_) (fun hc => ?_) | refine WC.cond_b rfl (fun hc => ?_) (fun hc => ?_))
      rw [hsb]
      refine WL.pa ?_ (POp.and8 (a := b) (b := 127) rfl rfl rfl rfl hbl (by decide))
      rw [hand]
      repeat' (first | apply WL.fold | apply WA.fold | apply WL.nil | apply WX.n_then | apply WC.seq | apply WC.region | refine WL.pa ?_ | refine WL.ga rfl ?_ | refine WL.na rfl ?_ | refine WL.nu rfl rfl ?_ | apply WC.block | apply WC.skip | apply WC.exit | apply WC.ret | apply WX.e_block | refine WX.e_other rfl ?_ | apply WX.e_then | apply WX.e_again | apply WX.n_block | apply WX.r_then | apply WX.r_block | apply WX.r_again | refine WC.cond_yes rfl ?_ | refine WC.cond_no rfl ?_ | refine WC.cond rfl (fun hc => ?_) (fun hc => ?_) | refine WC.cond_b rfl (fun hc => ?_) (fun hc => ?_))
      refine WL.pa ?_ ((POp.conv (k' := .u64) rfl).of (v' := .int .u64 ((b % 128 : Nat) : Int)) (by rw [wrap_u64 (by omega)]))
      repeat' (first | apply WL.fold | apply WA.fold | apply WL.nil | apply WX.n_then | apply WC.seq | apply WC.region | refine WL.pa ?_ | refine WL.ga rfl ?_ | refine WL.na rfl ?_ | refine WL.nu rfl rfl ?_ | apply WC.block | apply WC.skip | apply WC.exit | apply WC.ret | apply WX.e_block | refine WX.e_other rfl ?_ | apply WX.e_then | apply WX.e_again | apply WX.n_block | apply WX.r_then | apply WX.r_block | apply WX.r_again | refine WC.cond_yes rfl ?_ | refine WC.cond_no rfl ?_ | refine WC.cond rfl (fun hc => ?_) (fun hc => ?_) | refine WC.cond_b rfl (fun hc => ?_) (fun hc => ?_))
      refine WL.pa ?_ (POp.shl64 (a := b % 128) (b := 7 * i) rfl rfl rfl (by omega) (by omega) hshl)
      repeat' (first | apply WL.fold | apply WA.fold | apply WL.nil | apply WX.n_then | apply WC.seq | apply WC.region | refine WL.pa ?_ | refine WL.ga rfl ?_ | refine WL.na rfl ?_ | refine WL.nu rfl rfl ?_ | apply WC.block | apply WC.skip | apply WC.exit | apply WC.ret | apply WX.e_block | refine WX.e_other rfl ?_ | apply WX.e_then | apply WX.e_again | apply WX.n_block | apply WX.r_then | apply WX.r_block | apply WX.r_again | refine WC.cond_yes rfl ?_ | refine WC.cond_no rfl ?_ | refine WC.cond rfl (fun hc => ?_) (fun hc => ?_) | refine WC.cond_b rfl (fun hc => ?_) (fun hc => ?_))
      refine WL.pa ?_ (POp.or64 (a := z) (b := (b % 128) <<< (7 * i)) rfl rfl rfl rfl (by omega) hshl)
      rw [hor]
      by_cases h128 : 128 ≤ b
      · have h128' : (128 : Int) ≤ (b : Int) := by omega
        repeat' (first | apply WL.fold | apply WA.fold | apply WL.nil | apply WX.n_then | apply WC.seq | apply WC.region | refine WL.pa ?_ | refine WL.ga rfl ?_ | refine WL.na rfl ?_ | refine WL.nu rfl rfl ?_ | apply WC.block | apply WC.skip | apply WC.exit | apply WC.ret | apply WX.e_block | refine WX.e_other rfl ?_ | apply WX.e_then | apply WX.e_again | apply WX.n_block | apply WX.r_then | apply WX.r_block | apply WX.r_again | refine WC.cond_yes rfl ?_ | refine WC.cond_no rfl ?_ | refine WC.cond rfl (fun hc => ?_) (fun hc => ?_) | refine WC.cond_b rfl (fun hc => ?_) (fun hc => ?_))
        exact WX.again (i + 1, z') ⟨rfl, hlt, hz2, by rw [← on h128]; exact hd⟩ (by show 9 - (i + 1) < 9 - i; omega) esA
      · have h128' : ¬ (128 : Int) ≤ (b : Int) := by omega
        have hand1 : z' &&& 1 = z' % 2 := Nat.and_two_pow_sub_one_eq_mod z' 1
        have hshr : z' >>> 1 = z' / 2 := Nat.shiftRight_eq_div_pow z' 1
        repeat' (first | apply WL.fold | apply WA.fold | apply WL.nil | apply WX.n_then | apply WC.seq | apply WC.region | refine WL.pa ?_ | refine WL.ga rfl ?_ | refine WL.na rfl ?_ | refine WL.nu rfl rfl ?_ | apply WC.block | apply WC.skip | apply WC.exit | apply WC.ret | apply WX.e_block | refine WX.e_other rfl ?_ | apply WX.e_then | apply WX.e_again | apply WX.n_block | apply WX.r_then | apply WX.r_block | apply WX.r_again | refine WC.cond_yes rfl ?_ | refine WC.cond_no rfl ?_ | refine WC.cond rfl (fun hc => ?_) (fun hc => ?_) | refine WC.cond_b rfl (fun hc => ?_) (fun hc => ?_))
        refine WL.pa ?_ (POp.shr64 (a := z') (b := 1) rfl rfl rfl rfl (by decide))
        rw [hshr]
        repeat' (first | apply WL.fold | apply WA.fold | apply WL.nil | apply WX.n_then | apply WC.seq | apply WC.region | refine WL.pa ?_ | refine WL.ga rfl ?_ | refine WL.na rfl ?_ | refine WL.nu rfl rfl ?_ | apply WC.block | apply WC.skip | apply WC.exit | apply WC.ret | apply WX.e_block | refine WX.e_other rfl ?_ | apply WX.e_then | apply WX.e_again | apply WX.n_block | apply WX.r_then | apply WX.r_block | apply WX.r_again | refine WC.cond_yes rfl ?_ | refine WC.cond_no rfl ?_ | refine WC.cond rfl (fun hc => ?_) (fun hc => ?_) | refine WC.cond_b rfl (fun hc => ?_) (fun hc => ?_))
        refine WL.pa ?_ (POp.and64 (a := z') (b := 1) rfl rfl rfl rfl (by omega) (by decide))
        rw [hand1]
        repeat' (first | apply WL.fold | apply WA.fold | apply WL.nil | apply WX.n_then | apply WC.seq | apply WC.region | refine WL.pa ?_ | refine WL.ga rfl ?_ | refine WL.na rfl ?_ | refine WL.nu rfl rfl ?_ | apply WC.block | apply WC.skip | apply WC.exit | apply WC.ret | apply WX.e_block | refine WX.e_other rfl ?_ | apply WX.e_then | apply WX.e_again | apply WX.n_block | apply WX.r_then | apply WX.r_block | apply WX.r_again | refine WC.cond_yes rfl ?_ | refine WC.cond_no rfl ?_ | refine WC.cond rfl (fun hc => ?_) (fun hc => ?_) | refine WC.cond_b rfl (fun hc => ?_) (fun hc => ?_))
        refine WL.pa ?_ (POp.zz (z := z') rfl rfl (by omega))
        by_cases hb0 : (b : Int) = 0
        · by_cases hi0 : (0 : Int) < (i : Int)
          · have hno := no h128 (.inl ⟨by omega, by omega⟩)
            repeat' (first | apply WL.fold | apply WA.fold | apply WL.nil | apply WX.n_then | apply WC.seq | apply WC.region | refine WL.pa ?_ | refine WL.ga rfl ?_ | refine WL.na rfl ?_ | refine WL.nu rfl rfl ?_ | apply WC.block | apply WC.skip | apply WC.exit | apply WC.ret | apply WX.e_block | refine WX.e_other rfl ?_ | apply WX.e_then | apply WX.e_again | apply WX.n_block | apply WX.r_then | apply WX.r_block | apply WX.r_again | refine WC.cond_yes rfl ?_ | refine WC.cond_no rfl ?_ | refine WC.cond rfl (fun hc => ?_) (fun hc => ?_) | refine WC.cond_b rfl (fun hc => ?_) (fun hc => ?_))
            exact WX.ret3 (P := Tryz.prog) rfl rfl rfl rfl ⟨by rw [← hd, hno]; rfl, rfl⟩
          · by_cases hu : unz z' < -4611686018427387903
            · have hno := no h128 (.inr hu)
              repeat' (first | apply WL.fold | apply WA.fold | apply WL.nil | apply WX.n_then | apply WC.seq | apply WC.region | refine WL.pa ?_ | refine WL.ga rfl ?_ | refine WL.na rfl ?_ | refine WL.nu rfl rfl ?_ | apply WC.block | apply WC.skip | apply WC.exit | apply WC.ret | apply WX.e_block | refine WX.e_other rfl ?_ | apply WX.e_then | apply WX.e_again | apply WX.n_block | apply WX.r_then | apply WX.r_block | apply WX.r_again | refine WC.cond_yes rfl ?_ | refine WC.cond_no rfl ?_ | refine WC.cond rfl (fun hc => ?_) (fun hc => ?_) | refine WC.cond_b rfl (fun hc => ?_) (fun hc => ?_))
              exact WX.ret3 (P := Tryz.prog) rfl rfl rfl rfl ⟨by rw [← hd, hno]; rfl, rfl⟩
            · have hyes := yes h128 (by omega)
              repeat' (first | apply WL.fold | apply WA.fold | apply WL.nil | apply WX.n_then | apply WC.seq | apply WC.region | refine WL.pa ?_ | refine WL.ga rfl ?_ | refine WL.na rfl ?_ | refine WL.nu rfl rfl ?_ | apply WC.block | apply WC.skip | apply WC.exit | apply WC.ret | apply WX.e_block | refine WX.e_other rfl ?_ | apply WX.e_then | apply WX.e_again | apply WX.n_block | apply WX.r_then | apply WX.r_block | apply WX.r_again | refine WC.cond_yes rfl ?_ | refine WC.cond_no rfl ?_ | refine WC.cond rfl (fun hc => ?_) (fun hc => ?_) | refine WC.cond_b rfl (fun hc => ?_) (fun hc => ?_))
              exact WX.ret3 (P := Tryz.prog) rfl rfl rfl rfl ⟨by rw [← hd, hyes]; rfl, rfl⟩
        · by_cases hu : unz z' < -4611686018427387903
          · have hno := no h128 (.inr hu)
            repeat' (first | apply WL.fold | apply WA.fold | apply WL.nil | apply WX.n_then | apply WC.seq | apply WC.region | refine WL.pa ?_ | refine WL.ga rfl ?_ | refine WL.na rfl ?_ | refine WL.nu rfl rfl ?_ | apply WC.block | apply WC.skip | apply WC.exit | apply WC.ret | apply WX.e_block | refine WX.e_other rfl ?_ | apply WX.e_then | apply WX.e_again | apply WX.n_block | apply WX.r_then | apply WX.r_block | apply WX.r_again | refine WC.cond_yes rfl ?_ | refine WC.cond_no rfl ?_ | refine WC.cond rfl (fun hc => ?_) (fun hc => ?_) | refine WC.cond_b rfl (fun hc => ?_) (fun hc => ?_))
            exact WX.ret3 (P := Tryz.prog) rfl rfl rfl rfl ⟨by rw [← hd, hno]; rfl, rfl⟩
          · have hyes := yes h128 (by omega)
            repeat' (first | apply WL.fold | apply WA.fold | apply WL.nil | apply WX.n_then | apply WC.seq | apply WC.region | refine WL.pa ?_ | refine WL.ga rfl ?_ | refine WL.na rfl ?_ | refine WL.nu rfl rfl ?_ | apply WC.block | apply WC.skip | apply WC.exit | apply WC.ret | apply WX.e_block | refine WX.e_other rfl ?_ | apply WX.e_then | apply WX.e_again | apply WX.n_block | apply WX.r_then | apply WX.r_block | apply WX.r_again | refine WC.cond_yes rfl ?_ | refine WC.cond_no rfl ?_ | refine WC.cond rfl (fun hc => ?_) (fun hc => ?_) | refine WC.cond_b rfl (fun hc => ?_) (fun hc => ?_))
            exact WX.ret3 (P := Tryz.prog) rfl rfl rfl rfl ⟨by rw [← hd, hyes]; rfl, rfl⟩
    · have hge : ((s.size : Int) ≤ (p : Int) + (i : Int)) := by omega
      have hno := decG_end (s := s.data.toList) (p := p) (i := i) (z := z) (by omega)
      repeat' (first | apply WL.fold | apply WA.fold | apply WL.nil | apply WX.n_then | apply WC.seq | apply WC.region | refine WL.pa ?_ | refine WL.ga rfl ?_ | refine WL.na rfl ?_ | refine WL.nu rfl rfl ?_ | apply WC.block | apply WC.skip | apply WC.exit | apply WC.ret | apply WX.e_block | refine WX.e_other rfl ?_ | apply WX.e_then | apply WX.e_again | apply WX.n_block | apply WX.r_then | apply WX.r_block | apply WX.r_again | refine WC.cond_yes rfl ?_ | refine WC.cond_no rfl ?_ | refine WC.cond rfl (fun hc => ?_) (fun hc => ?_) | refine WC.cond_b rfl (fun hc => ?_) (fun hc => ?_))
      exact WX.ret3 (P := Tryz.prog) rfl rfl rfl rfl ⟨by rw [← hd, hno]; rfl, rfl⟩
  · obtain rfl : i = 9 := by omega
    have hno := decG_9 s.data.toList p z
    repeat' (first | apply WL.fold | apply WA.fold | apply WL.nil | apply WX.n_then | apply WC.seq | apply WC.region | refine WL.pa ?_ | refine WL.ga rfl ?_ | refine WL.na rfl ?_ | refine WL.nu rfl rfl ?_ | apply WC.block | apply WC.skip | apply WC.exit | apply WC.ret | apply WX.e_block | refine WX.e_other rfl ?_ | apply WX.e_then | apply WX.e_again | apply WX.n_block | apply WX.r_then | apply WX.r_block | apply WX.r_again | refine WC.cond_yes rfl ?_ | refine WC.cond_no rfl ?_ | refine WC.cond rfl (fun hc => ?_) (fun hc => ?_) | refine WC.cond_b rfl (fun hc => ?_) (fun hc => ?_))
    exact WX.ret3 (P := Tryz.prog) rfl rfl rfl rfl ⟨by rw [← hd, hno]; rfl, rfl⟩
end Go.Sx
/- Chapter 1: a string that is read back: the walk. -/
namespace Go.Sx
open Go Go.Proofs Go.RowKit
theorem ba_ext {s t : ByteArray} (h : s.data.toList = t.data.toList) : s = t := by
  cases s; cases t
  congr 1
  exact Array.toList_inj.1 h
theorem extract_L (s : ByteArray) (a b : Nat) : (s.extract a b).data.toList = (s.data.toList.drop a).take (b - a) := by
  rw [ByteArray.data_extract, Array.toList_extract]
theorem extract_mk (s : ByteArray) (a b : Nat) : s.extract a b = mkBA ((s.data.toList.drop a).take (b - a)) := ba_ext (by rw [extract_L]; rfl)
attribute [local irreducible] WC WL WX POp Then Again Fn NX W1 WA WO QL RP RA Yld LoopAt HC HL HX HN H1 HA HO HQ HB HP A.blk A.grow A.rd A.obj A.mp AgainH CutH
attribute [local irreducible] unz
set_option maxHeartbeats 2000000 in
theorem string_fn (s : ByteArray) (p : Nat) (hp : p ≤ s.size) (hs : s.size ≤ 5000000) (w : World) : Fn Tryz.prog 196 #[.string s, zv (p : Int)] w fun v w' => v = strV (decS s.data.toList p) ∧ w = w' := by
  have hlen : s.data.toList.length = s.size := by rw [Array.length_toList]; rfl
  have hint := int_fn s p hp hs w
  refine enter (l := [_, _]) rfl Tryz.ntmps196 rfl ?_
  unfold decS
  cases hd : decI s.data.toList p with
  | none =>
    rw [hd] at hint
    repeat' (first | apply WL.fold | apply WA.fold | apply WL.nil | apply WX.n_then | apply WC.seq | apply WC.region | refine WL.pa ?_ | refine WL.ga rfl ?_ | refine WL.na rfl ?_ | refine WL.nu rfl rfl ?_ | apply WC.block | apply WC.skip | apply WC.exit | apply WC.ret | apply WX.e_block | refine WX.e_other rfl ?_ | apply WX.e_then | apply WX.e_again | apply WX.n_block | apply WX.r_then | apply WX.r_block | apply WX.r_again | refine WC.cond_yes rfl ?_ | refine WC.cond_no rfl ?_ | refine WC.cond rfl (fun hc => ?_) (fun hc => ?_) | refine WC.cond_b rfl (fun hc => ?_) (fun hc => ?_))
    refine WL.call rfl rfl hint ?_
    rintro v w' ⟨rfl, rfl⟩
    unfold intV
    repeat' (first | apply WL.fold | apply WA.fold | apply WL.nil | apply WX.n_then | apply WC.seq | apply WC.region | refine WL.pa ?_ | refine WL.ga rfl ?_ | refine WL.na rfl ?_ | refine WL.nu rfl rfl ?_ | apply WC.block | apply WC.skip | apply WC.exit | apply WC.ret | apply WX.e_block | refine WX.e_other rfl ?_ | apply WX.e_then | apply WX.e_again | apply WX.n_block | apply WX.r_then | apply WX.r_block | apply WX.r_again | refine WC.cond_yes rfl ?_ | refine WC.cond_no rfl ?_ | refine WC.cond rfl (fun hc => ?_) (fun hc => ?_) | refine WC.cond_b rfl (fun hc => ?_) (fun hc => ?_))
    exact WX.ret3 (P := Tryz.prog) rfl rfl rfl rfl ⟨rfl, rfl⟩
  | some x =>
    obtain ⟨z, q⟩ := x
    rw [hd] at hint
    have hq := decG_le 9 0 0 (by omega) hd
    simp only at hq
    rw [hlen] at hq ⊢
    dsimp only
    repeat' (first | apply WL.fold | apply WA.fold | apply WL.nil | apply WX.n_then | apply WC.seq | apply WC.region | refine WL.pa ?_ | refine WL.ga rfl ?_ | refine WL.na rfl ?_ | refine WL.nu rfl rfl ?_ | apply WC.block | apply WC.skip | apply WC.exit | apply WC.ret | apply WX.e_block | refine WX.e_other rfl ?_ | apply WX.e_then | apply WX.e_again | apply WX.n_block | apply WX.r_then | apply WX.r_block | apply WX.r_again | refine WC.cond_yes rfl ?_ | refine WC.cond_no rfl ?_ | refine WC.cond rfl (fun hc => ?_) (fun hc => ?_) | refine WC.cond_b rfl (fun hc => ?_) (fun hc => ?_))
    refine WL.call rfl rfl hint ?_
    rintro v w' ⟨rfl, rfl⟩
    unfold intV
    obtain ⟨u, hu⟩ : ∃ u, u = unz z := ⟨_, rfl⟩
    rw [← hu]
    by_cases h1 : u < 0
    · rw [if_pos (.inl h1)]
      repeat' (first | apply WL.fold | apply WA.fold | apply WL.nil | apply WX.n_then | apply WC.seq | apply WC.region | refine WL.pa ?_ | refine WL.ga rfl ?_ | refine WL.na rfl ?_ | refine WL.nu rfl rfl ?_ | apply WC.block | apply WC.skip | apply WC.exit | apply WC.ret | apply WX.e_block | refine WX.e_other rfl ?_ | apply WX.e_then | apply WX.e_again | apply WX.n_block | apply WX.r_then | apply WX.r_block | apply WX.r_again | refine WC.cond_yes rfl ?_ | refine WC.cond_no rfl ?_ | refine WC.cond rfl (fun hc => ?_) (fun hc => ?_) | refine WC.cond_b rfl (fun hc => ?_) (fun hc => ?_))
      exact WX.ret3 (P := Tryz.prog) rfl rfl rfl rfl ⟨rfl, rfl⟩
    · by_cases h2 : u > 65536
      · rw [if_pos (.inr (.inl h2))]
        repeat' (first | apply WL.fold | apply WA.fold | apply WL.nil | apply WX.n_then | apply WC.seq | apply WC.region | refine WL.pa ?_ | refine WL.ga rfl ?_ | refine WL.na rfl ?_ | refine WL.nu rfl rfl ?_ | apply WC.block | apply WC.skip | apply WC.exit | apply WC.ret | apply WX.e_block | refine WX.e_other rfl ?_ | apply WX.e_then | apply WX.e_again | apply WX.n_block | apply WX.r_then | apply WX.r_block | apply WX.r_again | refine WC.cond_yes rfl ?_ | refine WC.cond_no rfl ?_ | refine WC.cond rfl (fun hc => ?_) (fun hc => ?_) | refine WC.cond_b rfl (fun hc => ?_) (fun hc => ?_))
        exact WX.ret3 (P := Tryz.prog) rfl rfl rfl rfl ⟨rfl, rfl⟩
      · by_cases h3 : u > (s.size : Int) - (q : Int)
        · rw [if_pos (.inr (.inr h3))]
          repeat' (first | apply WL.fold | apply WA.fold | apply WL.nil | apply WX.n_then | apply WC.seq | apply WC.region | refine WL.pa ?_ | refine WL.ga rfl ?_ | refine WL.na rfl ?_ | refine WL.nu rfl rfl ?_ | apply WC.block | apply WC.skip | apply WC.exit | apply WC.ret | apply WX.e_block | refine WX.e_other rfl ?_ | apply WX.e_then | apply WX.e_again | apply WX.n_block | apply WX.r_then | apply WX.r_block | apply WX.r_again | refine WC.cond_yes rfl ?_ | refine WC.cond_no rfl ?_ | refine WC.cond rfl (fun hc => ?_) (fun hc => ?_) | refine WC.cond_b rfl (fun hc => ?_) (fun hc => ?_))
          exact WX.ret3 (P := Tryz.prog) rfl rfl rfl rfl ⟨rfl, rfl⟩
        · rw [if_neg (by omega)]
          obtain ⟨n, rfl⟩ := Int.eq_ofNat_of_zero_le (show 0 ≤ u by omega)
          have e1 : ((q : Int) + (n : Int)).toNat = q + n := by omega
          have e2 := extract_mk s q (q + n)
          rw [show q + n - q = n from by omega] at e2
          repeat' (first | apply WL.fold | apply WA.fold | apply WL.nil | apply WX.n_then | apply WC.seq | apply WC.region | refine WL.pa ?_ | refine WL.ga rfl ?_ | refine WL.na rfl ?_ | refine WL.nu rfl rfl ?_ | apply WC.block | apply WC.skip | apply WC.exit | apply WC.ret | apply WX.e_block | refine WX.e_other rfl ?_ | apply WX.e_then | apply WX.e_again | apply WX.n_block | apply WX.r_then | apply WX.r_block | apply WX.r_again | refine WC.cond_yes rfl ?_ | refine WC.cond_no rfl ?_ | refine WC.cond rfl (fun hc => ?_) (fun hc => ?_) | refine WC.cond_b rfl (fun hc => ?_) (fun hc => ?_))
          refine WX.ret3 (P := Tryz.prog) rfl rfl rfl rfl ⟨?_, rfl⟩
          rw [← hu, e1, Int.toNat_natCast, Int.toNat_natCast, e2]
          rfl
end Go.Sx
/-
  Regions whose order is open: loads of cells that stay as they are until an operation of the region that comes behind them.
-/
namespace Go.Sx
open Go
/-- Every order; C holds wherever one stands. -/
def AnyU (C : Array Bool → World → Prop) (P : Program) (ops : Array Oper) (Q : Post) : Nat → Array Bool → Act → World → Prop
  | 0, listed, a, w => C listed w ∧ Region.ready .any ops listed = [] ∧ Q .normal a w
  | fuel + 1, listed, a, w => C listed w ∧ (Region.ready .any ops listed = [] → Q .normal a w) ∧ ∀ i ∈ Region.ready .any ops listed, wpOpIn (FW none) 0 P ops Q i (AnyU C P ops Q fuel (listed.setIfInBounds i true)) a w
section
variable {C : Array Bool → World → Prop} {P : Program} {ops : Array Oper} {Q : Post}
theorem AnyU.is : ∀ {fuel : Nat} {listed : Array Bool} {a : Act} {w : World}, AnyU C P ops Q fuel listed a w → C listed w
  | 0, _, _, _, h => h.1
  | _ + 1, _, _, _, h => h.1
theorem anyU_in : ∀ (fuel : Nat) (listed : Array Bool) (a : Act) (w : World), AnyU C P ops Q fuel listed a w → wpAnyIn (FW none) 0 P .any ops Q fuel listed a w := by
  intro fuel
  induction fuel with
  | zero => intro listed a w h; exact h.2
  | succ fuel ih => intro listed a w h; exact ⟨h.2.1, fun j hj => wpOpIn_mono (fun a' w' h3 => ih _ a' w' h3) (h.2.2 j hj)⟩
/-- An operation that may go first: Y says what makes it yield its value, G what has not been performed yet. -/
theorem anyU_first {i : Nat} {oi : Oper} {v : Value} (Y : Act → Prop) (G : Array Bool → Prop) (hdn : ∀ listed w, C (listed.setIfInBounds i true) w → C listed w)
    (hG : ∀ listed j, G listed → i ∈ Region.ready .any ops listed → j ∈ Region.ready .any ops listed → j ≠ i → G (listed.setIfInBounds j true))
    (now : ∀ {K : Act → World → Prop} {a : Act} {w : World} {listed : Array Bool}, Y a → G listed → C listed w → K (a.put oi.dst v) w → wpOpIn (FW none) 0 P ops Q i K a w)
    (step : ∀ {j : Nat} {oj : Oper} {K : Act → World → Prop} {a : Act} {w : World}, ops[j]? = some oj → oi.apart ops oj = true → Y a → wpOpIn (FW none) 0 P ops Q j K (a.put oi.dst v) w → wpOpIn (FW none) 0 P ops Q j (fun a' w' => Y a' ∧ K (a'.put oi.dst v) w') a w) :
    ∀ (fuel : Nat) (listed : Array Bool) (a : Act) (w : World), (∀ (j : Nat) (oj : Oper), ops[j]? = some oj → j ≠ i → listed.getD j true = false → (∀ e ∈ oj.after, Region.binds .any e = true → e.on ≠ i) → oi.apart ops oj = true) →
      i ∈ Region.ready .any ops listed → Y a → G listed → AnyU C P ops Q fuel (listed.setIfInBounds i true) (a.put oi.dst v) w → AnyU C P ops Q (fuel + 1) listed a w := by
  intro fuel
  induction fuel with
  | zero =>
    intro listed a w _ hr hy hg h
    refine ⟨hdn _ _ h.is, fun e => (by rw [e] at hr; cases hr), fun j hj => ?_⟩
    by_cases hji : j = i
    · subst hji; exact now hy hg (hdn _ _ h.is) h
    · have h1 := ready_mono hj hji
      rw [h.2.1] at h1; cases h1
  | succ fuel ih =>
    intro listed a w hf hr hy hg h
    refine ⟨hdn _ _ h.is, fun e => (by rw [e] at hr; cases hr), fun j hj => ?_⟩
    by_cases hji : j = i
    · subst hji; exact now hy hg (hdn _ _ h.is) h
    · obtain ⟨hun, oj, hoj, hall⟩ := mem_ready.1 hj
      have hno : ∀ e ∈ oj.after, Region.binds .any e = true → e.on ≠ i := by
        intro e he hb e1
        have h1 := hall e he hb
        have h0 := (mem_ready.1 hr).1
        rw [e1] at h1
        rw [Array.getD_eq_getD_getElem?] at h0 h1
        cases hl : listed[i]? with
        | none => rw [hl] at h1; cases h1
        | some b => rw [hl] at h0 h1; simp only [Option.getD_some] at h0 h1; rw [h0] at h1; cases h1
      refine wpOpIn_mono (fun a' w' h3 => ?_) (step hoj (hf j oj hoj hji hun hno) hy (h.2.2 j (ready_mono hj hji)))
      refine ih (listed.setIfInBounds j true) a' w' (fun k ok hok hki hku hkn => ?_) (ready_mono hr (Ne.symm hji)) h3.1 (hG listed j hg hr hj hji) ?_
      · by_cases e : j = k
        · subst e; exact hf j ok hok hji hun hkn
        · rw [getD_set_ne true e] at hku; exact hf k ok hok hki hku hkn
      · rw [Array.setIfInBounds_comm _ _ hji]; exact h3.2
end
/-- Cells that stay as they are until an operation. -/
def CellsU (l : List (Nat × Addr × Value)) (listed : Array Bool) (w : World) : Prop := ∀ p ∈ l, listed.getD p.1 true = false → w.cell? p.2.1 = some p.2.2
def notU (l : List (Nat × Addr × Value)) (i : Nat) : Bool := l.all fun p => !Nat.beq p.1 i
/-- An operation comes behind another one. -/
def behindB (ol : List Oper) (s i : Nat) : Bool := match ol[s]? with
  | some o => o.after.toList.any fun e => Region.binds .any e && Nat.beq e.on i
  | none => false
theorem cellsU_dn {l : List (Nat × Addr × Value)} {i : Nat} (h : notU l i = true) (listed : Array Bool) (w : World) (hC : CellsU l (listed.setIfInBounds i true) w) : CellsU l listed w := fun p hp hl => by
  have h1 := List.all_eq_true.1 h p hp
  have h2 : ¬ i = p.1 := fun e => by
    subst e
    simp [Nat.beq_refl] at h1
  exact hC p hp (by rw [getD_set_ne true h2]; exact hl)
theorem unlisted_behind {ol : List Oper} {s i : Nat} (hb : behindB ol s i = true) {listed : Array Bool} {j : Nat} (hs : listed.getD s true = false) (hi : i ∈ Region.ready .any ol.toArray listed) (hj : j ∈ Region.ready .any ol.toArray listed) : (listed.setIfInBounds j true).getD s true = false := by
  have hne : ¬ j = s := fun e => by
    subst e
    obtain ⟨-, oj, hoj, hall⟩ := mem_ready.1 hj
    have hoj' : ol[j]? = some oj := by simpa using hoj
    unfold behindB at hb
    rw [hoj'] at hb
    obtain ⟨e, he, h2⟩ := List.any_eq_true.1 hb
    rw [Bool.and_eq_true] at h2
    have h3 := hall e (by simpa using he) h2.1
    have h4 : e.on = i := Nat.eq_of_beq_eq_true h2.2
    have h0 := (mem_ready.1 hi).1
    rw [h4] at h3
    rw [Array.getD_eq_getD_getElem?] at h0 h3
    cases hl : listed[i]? with
    | none => rw [hl] at h3; cases h3
    | some b => rw [hl] at h0 h3; simp only [Option.getD_some] at h0 h3; rw [h0] at h3; cases h3
  rw [getD_set_ne true hne]; exact hs
def HU (l : List (Nat × Addr × Value)) (P : Program) (N : Nat) (ds : List Deferred) (ol : List Oper) (fuel : Nat) (listed : Array Bool) (Q : Post) (E : Env) (w0 : World) (H : List Atom) : Prop :=
  ∀ w, Mm w0 H w → ∀ a, Rep N ds E a → AnyU (CellsU l) P ol.toArray Q fuel listed a w
def HV (l : List (Nat × Addr × Value)) (P : Program) (N : Nat) (ds : List Deferred) (ol : List Oper) (fuel : Nat) (listed : Array Bool) (i : Nat) (o : Oper) (Q : Post) (E : Env) (w0 : World) (H : List Atom) : Prop :=
  ∀ w, Mm w0 H w → ∀ a, Rep N ds E a → if Region.wanted o (yielded ol.toArray a.tmps) then o.wpIn (FW none) 0 P a w (AnyU (CellsU l) P ol.toArray Q fuel (listed.setIfInBounds i true)) Q
    else AnyU (CellsU l) P ol.toArray Q fuel (listed.setIfInBounds i true) (a.put o.dst undef) w
def AllU (l : List (Nat × Addr × Value)) (P : Program) (N : Nat) (ds : List Deferred) (ol : List Oper) (fuel : Nat) (listed : Array Bool) (Q : Post) (E : Env) (w0 : World) (H : List Atom) : List Nat → Prop
  | [] => True
  | i :: rs => (∃ o, ol[i]? = some o ∧ HV l P N ds ol fuel listed i o Q E w0 H) ∧ AllU l P N ds ol fuel listed Q E w0 H rs
/-- The cells are as they were, as far as their operation is still to come. -/
def KeepU (l : List (Nat × Addr × Value)) (listed : Array Bool) (w0 : World) (H : List Atom) : Prop := ∀ w, Mm w0 H w → CellsU l listed w
section
variable {l : List (Nat × Addr × Value)} {w0 : World} {H : List Atom} {listed : Array Bool}
theorem KeepU.nil : KeepU [] listed w0 H := fun _ _ _ h => by cases h
theorem KeepU.cons {s : Nat} {ad : Addr} {v : Value} (h1 : ∀ w, Mm w0 H w → w.cell? ad = some v) (h : KeepU l listed w0 H) : KeepU ((s, ad, v) :: l) listed w0 H := fun w hM p hp hl => by
  rcases List.mem_cons.1 hp with rfl | hp
  · exact h1 w hM
  · exact h w hM p hp hl
theorem KeepU.skip {s : Nat} {ad : Addr} {v : Value} (h1 : listed.getD s true = true) (h : KeepU l listed w0 H) : KeepU ((s, ad, v) :: l) listed w0 H := fun w hM p hp hl => by
  rcases List.mem_cons.1 hp with rfl | hp
  · rw [h1] at hl; cases hl
  · exact h w hM p hp hl
theorem KeepU.blk {s b i : Nat} {v : Value} {cs : List Value} {e : TypeId} (hm : A.blk b cs e ∈ H) (hi : cs[i]? = some v) (h : KeepU l listed w0 H) : KeepU ((s, ⟨b, i, none⟩, v) :: l) listed w0 H := h.cons fun _ hM => (hM.blk hm).cell hi
theorem KeepU.base {s : Nat} {ad : Addr} {v : Value} (hc : w0.cell? ad = some v) (h : KeepU l listed w0 H) : KeepU ((s, ad, v) :: l) listed w0 H := h.cons fun _ hM => cell_ext hM.ext hc
variable {P : Program} {r : Option Nat} {N : Nat} {ds : List Deferred} {ol : List Oper} {Q : Post} {E : Env} {fuel : Nat} {ty : TypeId} {pos : String} {af : Array Edge}
theorem HC.anyU [hm : Mixed P] {id : Nat} {ol : List Oper} (l : List (Nat × Addr × Value)) (hf : ol.length = fuel) (h : HU l P N ds ol fuel (Array.replicate ol.length false) Q E w0 H) : HC P none N ds (.region id ol.toArray true) Q E w0 H :=
  HC.any hf fun w hM a ha => anyU_in _ _ _ _ (h w hM a ha)
theorem HU.pa [hq : QPanic Q] {d : Nat} {op : Op} {v : Value} (i : Nat) (ho : ol[i]? = some ⟨some d, op, ty, pos, af, none⟩) (h : HU l P N ds ol fuel (listed.setIfInBounds i true) Q ((d, v) :: E) w0 H)
    (hp : POp P N ds E op ty v := by
      first
        | (apply POp.move; rfl)
        | (apply POp.assign; rfl)
        | (apply POp.extract; rfl; rfl)
        | (apply POp.len_slice; rfl)
        | (apply POp.len_string; rfl)
        | (apply POp.lss; rfl; rfl)
        | (apply POp.leq; rfl; rfl)
        | (apply POp.gtr; rfl; rfl)
        | (apply POp.geq; rfl; rfl)
        | (apply POp.eql; rfl; rfl)
        | (apply POp.neq; rfl; rfl)
        | (apply POp.not_d; rfl)
        | (apply POp.not_b; rfl)
        | (apply POp.add; rfl; rfl; omega; omega)
        | (apply POp.sub; rfl; rfl; omega; omega)
        | (apply POp.xor; rfl; rfl; (first | with_reducible exact cst _ | with_reducible exact lit _ | exact rfl); (first | with_reducible exact cst _ | with_reducible exact lit _ | exact rfl); (first | omega | assumption | decide | (refine Nat.lt_of_le_of_lt (Nat.shiftRight_le _ _) ?_; omega) | (refine Nat.lt_of_le_of_lt Nat.and_le_right ?_; omega) | (refine Nat.lt_of_le_of_lt Nat.and_le_left ?_; omega) | (refine Nat.xor_lt_two_pow (n := 63) ?_ ?_ <;> omega)); (first | omega | assumption | decide | (refine Nat.lt_of_le_of_lt (Nat.shiftRight_le _ _) ?_; omega) | (refine Nat.lt_of_le_of_lt Nat.and_le_right ?_; omega) | (refine Nat.lt_of_le_of_lt Nat.and_le_left ?_; omega) | (refine Nat.xor_lt_two_pow (n := 63) ?_ ?_ <;> omega)))
        | (apply POp.xor8; rfl; rfl; (first | with_reducible exact cst _ | with_reducible exact lit _ | exact rfl); (first | with_reducible exact cst _ | with_reducible exact lit _ | exact rfl); (first | omega | assumption); (first | omega | assumption))
        | (apply POp.and; rfl; rfl; (first | with_reducible exact cst _ | with_reducible exact lit _ | exact rfl); (first | with_reducible exact cst _ | with_reducible exact lit _ | exact rfl); (first | omega | assumption | decide | (refine Nat.lt_of_le_of_lt (Nat.shiftRight_le _ _) ?_; omega) | (refine Nat.lt_of_le_of_lt Nat.and_le_right ?_; omega) | (refine Nat.lt_of_le_of_lt Nat.and_le_left ?_; omega) | (refine Nat.xor_lt_two_pow (n := 63) ?_ ?_ <;> omega)); (first | omega | assumption | decide | (refine Nat.lt_of_le_of_lt (Nat.shiftRight_le _ _) ?_; omega) | (refine Nat.lt_of_le_of_lt Nat.and_le_right ?_; omega) | (refine Nat.lt_of_le_of_lt Nat.and_le_left ?_; omega) | (refine Nat.xor_lt_two_pow (n := 63) ?_ ?_ <;> omega)))
        | (apply POp.or; rfl; rfl; (first | with_reducible exact cst _ | with_reducible exact lit _ | exact rfl); (first | with_reducible exact cst _ | with_reducible exact lit _ | exact rfl); (first | omega | assumption | decide | (refine Nat.lt_of_le_of_lt (Nat.shiftRight_le _ _) ?_; omega) | (refine Nat.lt_of_le_of_lt Nat.and_le_right ?_; omega) | (refine Nat.lt_of_le_of_lt Nat.and_le_left ?_; omega) | (refine Nat.xor_lt_two_pow (n := 63) ?_ ?_ <;> omega)); (first | omega | assumption | decide | (refine Nat.lt_of_le_of_lt (Nat.shiftRight_le _ _) ?_; omega) | (refine Nat.lt_of_le_of_lt Nat.and_le_right ?_; omega) | (refine Nat.lt_of_le_of_lt Nat.and_le_left ?_; omega) | (refine Nat.xor_lt_two_pow (n := 63) ?_ ?_ <;> omega)))
        | (apply POp.shr; rfl; rfl; (first | with_reducible exact cst _ | with_reducible exact lit _ | exact rfl); (first | with_reducible exact cst _ | with_reducible exact lit _ | exact rfl); omega)
        | (apply POp.shl; rfl; rfl; (first | with_reducible exact cst _ | with_reducible exact lit _ | exact rfl); (first | with_reducible exact cst _ | with_reducible exact lit _ | exact rfl); omega; (first | omega | assumption | decide | (refine Nat.lt_of_le_of_lt (Nat.shiftRight_le _ _) ?_; omega) | (refine Nat.lt_of_le_of_lt Nat.and_le_right ?_; omega) | (refine Nat.lt_of_le_of_lt Nat.and_le_left ?_; omega) | (refine Nat.xor_lt_two_pow (n := 63) ?_ ?_ <;> omega)))
        | (apply POp.quo; rfl; rfl; omega; omega; omega)
        | (apply POp.rem; rfl; rfl; omega; omega)
        | (apply POp.min_int; rfl; rfl)
        | (apply POp.max_int; rfl; rfl)
        | (apply POp.conv_i64; rfl; omega; omega)
        | (apply POp.index_slice; rfl; rfl; omega; omega; (first | (simp only [Nat.zero_add, Nat.add_zero, Nat.mul_one, Int.toNat_natCast, Int.reduceToNat, Nat.reduceMul, Nat.reduceAdd]; done) | (simp only [Nat.zero_add, Nat.add_zero, Nat.mul_one, Int.toNat_natCast, Int.reduceToNat, Nat.reduceMul, Nat.reduceAdd]; rfl) | rfl))
        | (apply POp.index_array; rfl; rfl; omega; omega; (first | (simp only [Nat.zero_add, Nat.add_zero, Nat.mul_one, Int.toNat_natCast, Int.reduceToNat, Nat.reduceMul, Nat.reduceAdd]; done) | (simp only [Nat.zero_add, Nat.add_zero, Nat.mul_one, Int.toNat_natCast, Int.reduceToNat, Nat.reduceMul, Nat.reduceAdd]; rfl) | rfl))
        | (apply POp.makeFunc; rfl; rfl)
        | (apply POp.index_string; rfl; rfl; (first | with_reducible exact cst _ | with_reducible exact lit _ | exact rfl); omega)
        | (apply POp.sub_lh; rfl; rfl; rfl; omega; omega; omega)
        | (apply POp.sub_h; rfl; rfl; omega; omega)
        | (apply POp.sub_l; rfl; rfl; omega; omega)
        | (apply POp.seql; rfl; rfl)
        | (apply POp.sneq; rfl; rfl)
        | (apply POp.conv_u8; rfl; omega; omega)
        | (apply POp.mul; rfl; rfl; omega; omega)
        | (refine POp.pick_t rfl ?_ rfl; (first | with_reducible rfl | assumption | (simp only [Bool.not_true, Bool.not_false]; done) | (simp only [decide_eq_true_eq, decide_eq_false_iff_not, Bool.not_true, Bool.not_false, not_true_eq_false, not_false_eq_true, reduceCtorEq]; first | done | assumption | omega)))
        | (refine POp.pick_f rfl ?_ rfl; (first | with_reducible rfl | assumption | (simp only [Bool.not_true, Bool.not_false]; done) | (simp only [decide_eq_true_eq, decide_eq_false_iff_not, Bool.not_true, Bool.not_false, not_true_eq_false, not_false_eq_true, reduceCtorEq]; first | done | assumption | omega)))
        | (apply POp.neg; rfl; omega; omega)
        | (apply POp.cat; rfl; rfl; omega)
        | (apply POp.beql; rfl; rfl)
        | (apply POp.bneq; rfl; rfl)
        | (apply POp.field; rfl; rfl)
        | (refine POp.fieldAddr rfl rfl)
        | (apply POp.cut_h; rfl; rfl; omega; omega)
        | (apply POp.xor32; rfl; rfl)
        | (apply POp.and32; rfl; rfl)
        | (apply POp.or32; rfl; rfl)
        | (apply POp.add32; rfl; rfl)
        | (apply POp.not32; rfl)
        | (apply POp.shl32; rfl; rfl; (first | with_reducible exact cst _ | with_reducible exact lit _ | exact rfl); omega)
        | (apply POp.shr32; rfl; rfl; (first | with_reducible exact cst _ | with_reducible exact lit _ | exact rfl); omega)
        | (apply POp.conv832; rfl)
        | (apply POp.conv328; rfl)
        | (apply POp.conv648; rfl))
    (hs : (Region.noSelect ol.toArray && Region.free .any ol.toArray listed i && (Region.ready .any ol.toArray listed).contains i) = true := by kernel_rfl)
    (hn : notU l i = true := by exact rfl)
    (hi : callsB op = false := by exact rfl)
    (hd : Nat.blt d N = true := by exact rfl) : HU l P N ds ol (fuel + 1) listed Q E w0 H := fun w hM a ha => by
  simp only [Bool.and_eq_true] at hs
  have ho' : ol.toArray[i]? = some ⟨some d, op, ty, pos, af, none⟩ := by simpa using ho
  have hyf : YieldsFenced P ol.toArray ⟨some d, op, ty, pos, af, none⟩ v a := ⟨.inl ⟨rfl, fun w => hp a ha _ _ _ _ _⟩, fun w => by
    unfold Oper.about
    cases op with
    | call c =>
      obtain ⟨cal, args, ats⟩ := c
      cases cal with
      | builtin b => simp [resolve, Target.leads]
      | value f => cases hi
      | invoke f m => cases hi
    | _ => rfl⟩
  exact anyU_first (YieldsFenced P ol.toArray ⟨some d, op, ty, pos, af, none⟩ v) (fun _ => True) (cellsU_dn hn) (fun _ _ _ _ _ _ => trivial) (fun hy _ _ hk => hy.wpOpIn rfl ho' hk)
    (fun hj hap hy h => wpOpIn_put rfl hj hap (fun cs b => Region.noSelect_spec hs.1.1 i _ cs b ho') (fun cs b => Region.noSelect_spec hs.1.1 _ _ cs b hj) (fun c a w => hq.is c a _ _ w) hy h) fuel listed a w
    (Region.free_spec ho' hs.1.2) (by simpa using hs.2) hyf trivial (h w hM _ (ha.put hd v))
/-- A load of a cell that stays as it is until an operation that comes behind it. -/
theorem HU.ld [hq : QPanic Q] {d s : Nat} {t : TypeId} {x : Operand} {ad : Addr} {v : Value} [hat : ATy P t false] (i : Nat) (ho : ol[i]? = some ⟨some d, .load t x, ty, pos, af, none⟩) (hx : Env.ev E x = some (.pointer (some ad))) (hc : (s, ad, v) ∈ l)
    (h : HU l P N ds ol fuel (listed.setIfInBounds i true) Q ((d, v) :: E) w0 H)
    (hb : (behindB ol s i && !listed.getD s true) = true := by kernel_rfl)
    (hne : (match x with | .tmp t => !(Nat.beq t d) | _ => true) = true := by exact rfl)
    (hs : (Region.noSelect ol.toArray && Region.free .any ol.toArray listed i && (Region.ready .any ol.toArray listed).contains i) = true := by kernel_rfl)
    (hn : notU l i = true := by exact rfl)
    (hd : Nat.blt d N = true := by exact rfl) : HU l P N ds ol (fuel + 1) listed Q E w0 H := fun w hM a ha => by
  simp only [Bool.and_eq_true] at hs
  rw [Bool.and_eq_true] at hb
  have ho' : ol.toArray[i]? = some ⟨some d, .load t x, ty, pos, af, none⟩ := by simpa using ho
  have hxd : ∀ d', (some d : Option Nat) = some d' → x ≠ .tmp d' := fun d' hd' e => by cases hd'; subst e; simp at hne
  refine anyU_first (oi := ⟨some d, .load t x, ty, pos, af, none⟩) (fun a' => a'.eval x = a.eval x) (fun listed => listed.getD s true = false) (cellsU_dn hn) (fun listed j hg hi hj hji => unlisted_behind hb.1 hg hi hj) (fun {K a' w' listed'} hy hg hC hk => ?_)
    (fun {j oj K a' w'} hj hap hy h => wpOpIn_mono (fun a'' w'' h3 => ⟨h3.1.trans hy, h3.2⟩) (op_swap rfl rfl hxd hj hap (fun cs b => Region.noSelect_spec hs.1.1 _ _ cs b hj) (fun c a w => hq.is c a _ _ w) h)) fuel listed a w
    (Region.free_spec ho' hs.1.2) (by simpa using hs.2) rfl (by simpa using hb.2) (h w hM _ (ha.put hd v))
  unfold wpOpIn
  rw [ho']
  dsimp only
  rw [if_pos (by simp [Region.wanted])]
  refine ⟨fun _ _ => trivial, ?_⟩
  have h1 : a'.eval x = .pointer (some ad) := hy.trans (ha.ev hx)
  have h2 := hC _ hc hg
  have hrun : (execOp a'.eval ⟨some d, .load t x, ty, pos, af, none⟩).run P w' = .ok (.value v) w' := by
    simp only [execOp, h1, Instr.loadAt, Instr.sureAddr, loadVar, Sem.run_bind, Sem.run_pure]
    simp [run_isAgg, h2]
  rw [semAt_of rfl, hrun]
  exact hk
theorem HU.done (hk : KeepU l listed w0 H) (hr : Region.ready .any ol.toArray listed = []) (h : HX N ds .normal Q E w0 H) : HU l P N ds ol fuel listed Q E w0 H := fun w hM a ha => by
  cases fuel with
  | zero => exact ⟨hk w hM, hr, h w hM a ha⟩
  | succ fuel => exact ⟨hk w hM, fun _ => h w hM a ha, fun i hi => by rw [hr] at hi; cases hi⟩
theorem HU.all (hk : KeepU l listed w0 H) (rs : List Nat) (hr : Region.ready .any ol.toArray listed = rs) (hne : rs.isEmpty = false) (h : AllU l P N ds ol fuel listed Q E w0 H rs) : HU l P N ds ol (fuel + 1) listed Q E w0 H := fun w hM a ha => by
  refine ⟨hk w hM, fun e => (by rw [hr] at e; subst e; cases hne), ?_⟩
  rw [hr]
  clear hr hne
  induction rs with
  | nil => intro i hi; cases hi
  | cons i rs ih =>
    intro j hj
    rcases List.mem_cons.1 hj with rfl | hj
    · obtain ⟨o, ho, h1⟩ := h.1
      have ho' : ol.toArray[j]? = some o := by simpa using ho
      unfold wpOpIn
      rw [ho']
      have h2 := h1 w hM a ha
      dsimp only
      split
      · rename_i hw; rw [if_pos hw] at h2; exact h2
      · rename_i hw; rw [if_neg hw] at h2; exact ⟨fun _ _ => trivial, h2⟩
    · exact ih h.2 j hj
theorem HU.fold (h : HU l P N ds ol fuel listed Q E w0 H) : HN N ds (AnyU (CellsU l) P ol.toArray Q fuel listed) E w0 H := fun w hM a ha => h w hM a ha
theorem HV.one {op : Op} {d : Option Nat} {i : Nat} (h : H1 P none N ds (AnyU (CellsU l) P ol.toArray Q fuel (listed.setIfInBounds i true)) ⟨d, op, ty, pos, af, none⟩ Q E w0 H) : HV l P N ds ol fuel listed i ⟨d, op, ty, pos, af, none⟩ Q E w0 H := fun w hM a ha => by
  simp only [Region.wanted, if_true]
  exact h w hM a ha
end
end Go.Sx
/- abstraction.read at the fixed example: the walks. -/
namespace Go.Sx
open Go Go.Proofs Go.RowKit
theorem hwF7 {G G2 : Prop} (x : G2) (hwq : Hold G2 → G := by
    intro hQq
    repeat' (first | refine HL.pa ?_ (POp.seqN rfl rfl (by assumption)) | refine HL.pa ?_ (POp.nilCheck rfl) | apply HL.fold | apply HA.fold | apply HL.nil | apply HX.n_then | apply HC.seq | apply HC.region | refine HL.pa ?_ | refine HL.ga rfl ?_ | refine HL.na rfl ?_ | refine HL.nu rfl rfl ?_ | apply HC.block | apply HC.skip | apply HC.exit | apply HC.ret | apply HX.e_block | refine HX.e_other rfl ?_ | apply HX.e_then | apply HX.e_again | apply HX.n_block | apply HX.r_then | apply HX.r_block | apply HX.r_again | refine HC.cond_yes rfl ?_ | refine HC.cond_no rfl ?_ | refine HL.one (H1.ldb rfl memA rfl rfl ?_) | refine HC.cond rfl (fun hc => ?_) (fun hc => ?_) | refine HC.cond_b rfl (fun hc => ?_) (fun hc => ?_))
    exact hQq.get) : G := hwq ⟨x⟩
theorem POp.seqN {P : Program} {N : Nat} {ds : List Deferred} {E : Env} {x y : Operand} {t t' ty : TypeId} {s u : ByteArray} [UTy P t .string] (hx : Env.ev E x = some (.string s)) (hy : Env.ev E y = some (.string u)) (h : ¬ s = u) : POp P N ds E (.binOp .eql t x y t') ty (.bool false) := by
  rw [← decide_eq_false h]
  exact POp.seql hx hy
theorem awithin_w (n lo hi : Int) (w : World) : Calls Tryz.prog 131 #[zv n, zv lo, zv hi] w fun e w' => e = .returned (.bool (decide (lo ≤ n) && decide (n ≤ hi))) ∧ w' = w := by
  by_cases h1 : lo ≤ n <;> by_cases h2 : n ≤ hi
  all_goals
    go_enter Tryz.func131, Tryz.ntmps131
    go_wp2
    all_goals first | (exfalso; omega) | (go_ret; exact ⟨by simp [h1, h2], rfl⟩)
def notLine (r : Nat) : Bool := !decide (32 ≤ wrap64 (r : Int)) || !decide (wrap64 (r : Int) ≤ 126)
theorem isLine_at (w : World) : PredAt Tryz.prog 205 #[] Go.Proofs.encR notLine w := fun W r _ => by
  have cI := fun n w => awithin_w n 32 126 w
  have e96 : ∀ args w, (callFunc 131 args).run Tryz.prog w = .ok (.enter 131 args) w := enters_of Tryz.func131 (by kernel_rfl) rfl
  unfold FnGives
  go_enter Tryz.func205, Tryz.ntmps205
  go_wp2_with (go_at_fn 131; refine (cI _ _).mono ?_; rintro e w' ⟨rfl, rfl⟩)
  go_ret
  exact ⟨rfl, 0, rfl⟩
theorem rLine_fn (s : ByteArray) (hs : Lib.idxFunc notLine true s = -1) (w : World) : Fn Tryz.prog 204 #[.string s, .func (.func 205) #[] #[]] w fun u w' => u = .bool false ∧ Ext w w' := by
  have h : Calls Tryz.prog 204 #[.string s, .func (.func 205) #[] #[]] w _ := Any.strings_ContainsFunc Tryz.conP 205 #[] (enters_of Tryz.func205 (by kernel_rfl) rfl) notLine s w (isLine_at w)
  unfold Fn
  refine Calls.mono h ?_
  rintro e w' ⟨h1, h2⟩
  exact ⟨_, h1, by rw [hs]; rfl, h2⟩
attribute [local irreducible] WC WL WX POp Then Again Fn NX W1 WA WO QL RP RA Yld LoopAt HC HL HX HN H1 HA HO HQ HB HP A.blk A.grow A.rd A.obj A.mp AgainH CutH
attribute [local irreducible] A.mq A.mit
theorem rdNumber_fn {w0 w : World} {H : List Atom} {br p q : Nat} {s : ByteArray} {v lo hi : Int} (hp : p ≤ s.size) (hs : s.size ≤ 5000000) (hd : intV (decI s.data.toList p) = .tuple #[zv v, zv (q : Int), zv 0]) (h1 : lo ≤ v) (h2 : v ≤ hi) (hM : Mm w0 (A.blk br [.string s, zv (p : Int)] 213 :: H) w) :
    Fn Tryz.prog 134 #[.pointer (some ⟨br, 0, none⟩), zv lo, zv hi] w fun u w' => u = zv v ∧ Mm w0 (A.blk br [.string s, zv (q : Int)] 213 :: H) w' := by
  refine enterK (l := [_, _, _]) hM rfl Tryz.ntmps134 rfl ?_
  refine hwF7 ?_
  refine HC.anyC ([(⟨br, 0, none⟩, .string s), (⟨br, 1, none⟩, zv (p : Int))]) rfl ?_
  refine HB.pa 0 rfl ?_
  refine HB.pa 1 rfl ?_ (POp.nilCheck rfl)
  refine HB.pa 2 rfl ?_
  refine HB.ld 3 rfl rfl memD ?_
  refine HB.pa 4 rfl ?_
  refine HB.pa 5 rfl ?_ (POp.nilCheck rfl)
  refine HB.pa 6 rfl ?_
  refine HB.ld 7 rfl rfl memD ?_
  refine HB.all (by repeat (first | exact Keep.nil | refine Keep.blk (by (repeat (first | exact List.Mem.head _ | apply List.Mem.tail)); done) rfl ?_ | refine Keep.grow (by (repeat (first | exact List.Mem.head _ | apply List.Mem.tail)); done) (by assumption) ?_ | refine Keep.base (by assumption) ?_)) [8] (by kernel_rfl) rfl ⟨⟨_, rfl, ?_⟩, trivial⟩
  refine HP.one ?_
  refine H1.call0 (u := .tuple #[zv v, zv (q : Int), zv 0]) (vs := [_, _]) rfl rfl (fun w' _ => (int_fn s p hp hs w').mono fun u w'' h => ⟨h.1.trans hd, h.2⟩) ?_
  apply HB.fold
  refine HB.pa 9 rfl ?_
  refine HB.pa 10 rfl ?_
  refine HB.pa 11 rfl ?_
  refine HB.pa 12 rfl ?_
  refine HB.pa 13 rfl ?_
  refine HB.pa 14 rfl ?_
  refine HB.pa 15 rfl ?_
  refine HB.done (by repeat (first | exact Keep.nil | refine Keep.blk (by (repeat (first | exact List.Mem.head _ | apply List.Mem.tail)); done) rfl ?_ | refine Keep.grow (by (repeat (first | exact List.Mem.head _ | apply List.Mem.tail)); done) (by assumption) ?_ | refine Keep.base (by assumption) ?_)) (by kernel_rfl) ?_
  refine hwF7 ?_
  refine HL.one (H1.callx (vs := [_, _, _]) rfl rfl (fun w' _ => awithin_yes h1 h2 w') ?_)
  refine hwF7 ?_
  refine HL.one (H1.callx (vs := [_]) rfl rfl (fun w' _ => amust_yes w') ?_)
  refine hwF7 ?_
  refine HL.one (H1.st rfl rfl (by intro _ h; cases h) (by intro _ h; cases h) rplA (by simp) ?_)
  refine hwF7 ?_
  exact HX.ret1 rfl rfl fun w' hM => ⟨rfl, hM⟩
theorem rdText_fn {w0 w : World} {H : List Atom} {br p q : Nat} {s r : ByteArray} (hp : p ≤ s.size) (hs : s.size ≤ 5000000) (hd : strV (decS s.data.toList p) = .tuple #[.string r, zv (q : Int), zv 0]) (hM : Mm w0 (A.blk br [.string s, zv (p : Int)] 213 :: H) w) :
    Fn Tryz.prog 135 #[.pointer (some ⟨br, 0, none⟩)] w fun u w' => u = .string r ∧ Mm w0 (A.blk br [.string s, zv (q : Int)] 213 :: H) w' := by
  refine enterK (l := [_]) hM rfl Tryz.ntmps135 rfl ?_
  refine hwF7 ?_
  refine HC.anyC ([(⟨br, 0, none⟩, .string s), (⟨br, 1, none⟩, zv (p : Int))]) rfl ?_
  refine HB.pa 0 rfl ?_
  refine HB.pa 1 rfl ?_ (POp.nilCheck rfl)
  refine HB.pa 2 rfl ?_
  refine HB.ld 3 rfl rfl memD ?_
  refine HB.pa 4 rfl ?_
  refine HB.pa 5 rfl ?_ (POp.nilCheck rfl)
  refine HB.pa 6 rfl ?_
  refine HB.ld 7 rfl rfl memD ?_
  refine HB.all (by repeat (first | exact Keep.nil | refine Keep.blk (by (repeat (first | exact List.Mem.head _ | apply List.Mem.tail)); done) rfl ?_ | refine Keep.grow (by (repeat (first | exact List.Mem.head _ | apply List.Mem.tail)); done) (by assumption) ?_ | refine Keep.base (by assumption) ?_)) [8] (by kernel_rfl) rfl ⟨⟨_, rfl, ?_⟩, trivial⟩
  refine HP.one ?_
  refine H1.call0 (u := .tuple #[.string r, zv (q : Int), zv 0]) (vs := [_, _]) rfl rfl (fun w' _ => (string_fn s p hp hs w').mono fun u w'' h => ⟨h.1.trans hd, h.2⟩) ?_
  apply HB.fold
  refine HB.pa 9 rfl ?_
  refine HB.pa 10 rfl ?_
  refine HB.pa 11 rfl ?_
  refine HB.pa 12 rfl ?_
  refine HB.pa 13 rfl ?_
  refine HB.pa 14 rfl ?_
  refine HB.pa 15 rfl ?_
  refine HB.done (by repeat (first | exact Keep.nil | refine Keep.blk (by (repeat (first | exact List.Mem.head _ | apply List.Mem.tail)); done) rfl ?_ | refine Keep.grow (by (repeat (first | exact List.Mem.head _ | apply List.Mem.tail)); done) (by assumption) ?_ | refine Keep.base (by assumption) ?_)) (by kernel_rfl) ?_
  refine hwF7 ?_
  refine HL.one (H1.callx (vs := [_]) rfl rfl (fun w' _ => amust_yes w') ?_)
  refine hwF7 ?_
  refine HL.one (H1.st rfl rfl (by intro _ h; cases h) (by intro _ h; cases h) rplA (by simp) ?_)
  refine hwF7 ?_
  exact HX.ret1 rfl rfl fun w' hM => ⟨rfl, hM⟩
theorem ln_one {r : ByteArray} : ∀ v ∈ [Value.string r, .slice none 0 0], v.oneCell' = true := by
  intro v hv
  simp only [List.mem_cons, List.not_mem_nil, or_false] at hv
  rcases hv with rfl | rfl <;> rfl
set_option maxHeartbeats 1000000 in
theorem rdLine1_fn {w0 w : World} {H : List Atom} {br p q : Nat} {s r : ByteArray} (vz : Value) (hp : p ≤ s.size) (hs : s.size ≤ 5000000) (hd : strV (decS s.data.toList p) = .tuple #[.string r, zv (q : Int), zv 0]) (hl : r.size ≤ 80) (hc : Lib.idxFunc notLine true r = -1) (hM : Mm w0 (A.blk br [.string s, zv (p : Int)] 213 :: H) w) :
    Fn Tryz.prog 137 #[.pointer (some ⟨br, 0, none⟩), zv 1, vz] w fun u w' => u = .agg #[.string r, .slice none 0 0] ∧ Mm w0 (A.blk br [.string s, zv (q : Int)] 213 :: H) w' := by
  have hl' : ((r.size : Nat) : Int) ≤ 80 := by omega
  refine enterK (l := [_, _, _]) hM rfl Tryz.ntmps137 rfl ?_
  refine hwF7 ?_
  refine HL.one (H1.alloc (cs := [.string ⟨#[]⟩, .slice none 0 0]) rfl rfl (fun b6 => ?_))
  refine hwF7 ?_
  refine HL.one (H1.alloc (cs := [.string ⟨#[]⟩, .slice none 0 0]) rfl rfl (fun b7 => ?_))
  refine hwF7 ?_
  refine HL.one (H1.callk (α := Unit) (V := fun _ => .string r) (I := fun _ => True) (H' := fun _ => A.blk br [.string s, zv (q : Int)] 213 :: A.blk b7 [.string ⟨#[]⟩, .slice none 0 0] 215 :: A.blk b6 [.string ⟨#[]⟩, .slice none 0 0] 215 :: H) (vs := [.pointer (some ⟨br, 0, none⟩)]) rfl rfl (fun w' hM => (rdText_fn hp hs hd (hM.sub (Hs.cons (Pick.there (Pick.there Pick.here)) (Hs.cons Pick.here (Hs.cons Pick.here (Hs.refl _)))))).mono fun u w'' h => ⟨(), trivial, h.1, h.2⟩) ?_)
  rintro - -
  refine hwF7 ?_
  refine HL.one (H1.st rfl rfl (by intro _ h; cases h) (by intro _ h; cases h) rplA (by simp) ?_)
  refine hwF7 ?_
  refine HL.one (H1.callx (vs := [_, _]) rfl rfl (fun w' _ => rLine_fn r hc w') ?_)
  refine hwF7 ?_
  refine HL.one (H1.callx (vs := [_]) rfl rfl (fun w' _ => amust_yes w') ?_)
  refine hwF7 ?_
  refine HL.one (H1.ldAgg (b := b7) (vs := [.string r, .slice none 0 0]) rfl memA rfl (fun i v hv => by show ([Value.string r, .slice none 0 0] : List Value)[0 + i]? = some v; rw [Nat.zero_add]; exact hv) rfl ?_)
  refine hwF7 ?_
  refine HL.one (H1.stAgg (b := b6) (cs := [.string ⟨#[]⟩, .slice none 0 0]) (vs := [.string r, .slice none 0 0]) rfl rfl rfl ln_one rplA rfl ?_)
  refine hwF7 ?_
  exact HX.retc1 (b := b6) (cs := [.string r, .slice none 0 0]) rfl rfl memA rfl fun w' hM => ⟨rfl, hM.sub (Hs.cons Pick.here ((Hs.refl _).skip.skip))⟩
def xpB : ByteArray := ⟨#[2, 4, 65, 98]⟩
theorem xpB_int : decI xpB.data.toList 0 = some (2, 1) := (decI_putN (s := xpB.data.toList) (p := 0) (n := 1) (rest := [4, 65, 98]) (by decide) (by decide +kernel)).trans (by decide +kernel)
theorem xpB_int1 : decI xpB.data.toList 1 = some (4, 2) := (decI_putN (s := xpB.data.toList) (p := 1) (n := 2) (rest := [65, 98]) (by decide) (by decide +kernel)).trans (by decide +kernel)
theorem xpB_str : decS xpB.data.toList 1 = some ([65, 98], 4) := by
  unfold decS
  rw [xpB_int1]
  decide +kernel
theorem xpAb_line : Lib.idxFunc notLine true xpAb = -1 := by decide +kernel
def avZ : List Value := [.bool false, .slice none 0 0, zv 0, zv 0, .string ⟨#[]⟩]
def vL (k : Nat) (a : Option Addr) (c : Nat) : List Value := [.bool false, .slice a k c, zv 0, zv 0, .string ⟨#[]⟩]
theorem vL_one {k : Nat} {a : Option Addr} {c : Nat} : ∀ v ∈ vL k a c, v.oneCell' = true := by
  intro v hv
  simp only [vL, List.mem_cons, List.not_mem_nil, or_false] at hv
  rcases hv with rfl | rfl | rfl | rfl | rfl <;> rfl
def lnX (k : Nat) : List Value := if k = 0 then [] else [.string xpAb, .slice none 0 0]
def atX (k : Nat) : Int := if k = 0 then 1 else 4
set_option maxHeartbeats 2000000 in
theorem aread_fn (w : World) : Fn Tryz.prog 72 #[zv 1, .string xpB] w fun u w' => ∃ z : Nat × Nat, True ∧ u = .agg (vL 1 (some ⟨z.1, 0, none⟩) z.2).toArray ∧ Mm w [A.grow 215 2 (some ⟨z.1, 0, none⟩) z.2 1 [.string xpAb, .slice none 0 0]] w' := by
  have hs : xpB.size ≤ 5000000 := by decide
  have hne : ¬ xpB = ⟨#[]⟩ := by decide +kernel
  refine enterH (l := [_, _]) rfl Tryz.ntmps72 rfl ?_
  refine hwF7 ?_
  refine HL.one (H1.alloc (cs := avZ) rfl rfl (fun b4 => ?_))
  refine hwF7 ?_
  refine HL.one (H1.callx (vs := [_, _, _]) rfl rfl (fun w' _ => awithin_yes (by decide) (by decide) w') ?_)
  refine hwF7 ?_
  refine HL.one (H1.callx (vs := [_]) rfl rfl (fun w' _ => amust_yes w') ?_)
  refine hwF7 ?_
  refine HL.one (H1.alloc (cs := vL 0 none 0) rfl rfl (fun b5 => ?_))
  refine hwF7 ?_
  refine HL.build (cs := [.string xpB, zv 0]) rfl rfl rfl ?_
  refine hwF7 ?_
  refine HL.one (H1.boxAgg (cs := [.string xpB, zv 0]) rfl rfl (fun br => ?_))
  refine hwF7 ?_
  refine HL.one (H1.callk (α := Unit) (V := fun _ => zv 1) (I := fun _ => True) (H' := fun _ => A.blk br [.string xpB, zv 1] 213 :: A.blk b5 (vL 0 none 0) 160 :: A.blk b4 avZ 160 :: []) (vs := [.pointer (some ⟨br, 0, none⟩), zv 0, zv 64]) rfl rfl (fun w' hM => (rdNumber_fn (p := 0) (q := 1) (by decide) hs (by rw [xpB_int]; rfl) (by decide) (by decide) hM).mono fun u w'' h => ⟨(), trivial, h.1, h.2⟩) ?_)
  rintro - -
  refine hwF7 ?_
  refine HC.grow0 215 2 ?_
  refine HC.loop (α := Nat × Option Addr × Nat) (fun z => [(0, zv 1), (1, .string xpB), (4, .pointer (some ⟨b4, 0, none⟩)), (5, .pointer (some ⟨b5, 0, none⟩)), (6, .pointer (some ⟨br, 0, none⟩)), (14, zv 1), (15, zv (z.1 : Int))])
    (fun z => [A.grow 215 2 z.2.1 z.2.2 z.1 (lnX z.1), A.blk br [.string xpB, zv (atX z.1)] 213, A.blk b5 (vL z.1 z.2.1 z.2.2) 160, A.blk b4 avZ 160]) (fun z => z.1 ≤ 1 ∧ (z.1 = 1 → ∃ b, z.2.1 = some ⟨b, 0, none⟩)) (fun z => 1 - z.1) (0, none, 0) ⟨Nat.zero_le _, fun h => (by cases h)⟩ esA (by repeat (first | exact Hs.nil _ | (refine Hs.cons pickA ?_))) ?_
  rintro ⟨k, a, c⟩ ⟨hk, hka⟩
  dsimp only at hk hka ⊢
  by_cases h0 : k = 0
  · subst h0
    unfold vL
    refine hwF7 ?_
    refine HC.anyU ([(10, ⟨b5, 1, none⟩, .slice a 0 c)]) rfl ?_
    refine HU.pa 0 rfl ?_
    refine HU.ld 1 rfl rfl memD ?_
    refine HU.pa 2 rfl ?_
    refine HU.pa 3 rfl ?_
    refine HU.pa 4 rfl ?_
    refine HU.ld 5 rfl rfl memD ?_
    refine HU.all (by (first | refine KeepU.blk (by (repeat (first | exact List.Mem.head _ | apply List.Mem.tail)); done) rfl ?_ | refine KeepU.grow (by (repeat (first | exact List.Mem.head _ | apply List.Mem.tail)); done) (by assumption) ?_ | refine KeepU.base (by assumption) ?_); exact KeepU.nil) [6] (by kernel_rfl) rfl ⟨⟨_, rfl, ?_⟩, trivial⟩
    refine HV.one ?_
    refine H1.callk (α := Unit) (V := fun _ => .agg #[.string xpAb, .slice none 0 0]) (I := fun _ => True) (H' := fun _ => A.blk br [.string xpB, zv 4] 213 :: A.grow 215 2 a c 0 (lnX 0) :: A.blk b5 [.bool false, .slice a 0 c, zv 0, zv 0, .string ⟨#[]⟩] 160 :: A.blk b4 avZ 160 :: []) (vs := [.pointer (some ⟨br, 0, none⟩), zv 1, .slice a 0 c]) rfl rfl (fun w' hM => (rdLine1_fn (p := 1) (q := 4) (r := xpAb) _ (by decide) hs (by rw [xpB_str]; rfl) (by decide) xpAb_line (hM.sub (Hs.cons (Pick.there Pick.here) (Hs.cons Pick.here (Hs.cons Pick.here (Hs.cons Pick.here (Hs.refl _))))))).mono fun u w'' h => ⟨(), trivial, h.1, h.2⟩) ?_
    rintro - -
    apply HU.fold
    refine HU.all (by (first | refine KeepU.blk (by (repeat (first | exact List.Mem.head _ | apply List.Mem.tail)); done) rfl ?_ | refine KeepU.grow (by (repeat (first | exact List.Mem.head _ | apply List.Mem.tail)); done) (by assumption) ?_ | refine KeepU.base (by assumption) ?_); exact KeepU.nil) [7] (by kernel_rfl) rfl ⟨⟨_, rfl, ?_⟩, trivial⟩
    refine HV.one ?_
    refine H1.lit (cs := [.string xpAb, .slice none 0 0]) rfl rfl rfl rfl rfl rfl (fun b8 => ?_)
    apply HU.fold
    refine HU.all (by (first | refine KeepU.blk (by (repeat (first | exact List.Mem.head _ | apply List.Mem.tail)); done) rfl ?_ | refine KeepU.grow (by (repeat (first | exact List.Mem.head _ | apply List.Mem.tail)); done) (by assumption) ?_ | refine KeepU.base (by assumption) ?_); exact KeepU.nil) [8] (by kernel_rfl) rfl ⟨⟨_, rfl, ?_⟩, trivial⟩
    refine HV.one ?_
    refine H1.app (sz := 2) (m := 1) (news := [.string xpAb, .slice none 0 0]) rfl (by decide) rfl rfl (fun _ _ => by first | ((repeat (first | with_reducible exact Rpl.here | with_reducible apply Rpl.there)); done) | (repeat (first | exact Rpl.here | apply Rpl.there))) rfl (fun w' hM j u hj => by rw [add_lit, Nat.zero_add]; exact (hM.blk (b := b8) memA).cell hj) ln_one (by decide) (by decide) rfl (fun a2 c2 ha2 => ?_)
    apply HU.fold
    refine HU.pa 9 rfl ?_
    refine HU.all (by (first | refine KeepU.blk (by (repeat (first | exact List.Mem.head _ | apply List.Mem.tail)); done) rfl ?_ | refine KeepU.grow (by (repeat (first | exact List.Mem.head _ | apply List.Mem.tail)); done) (by assumption) ?_ | refine KeepU.base (by assumption) ?_); exact KeepU.nil) [10] (by kernel_rfl) rfl ⟨⟨_, rfl, ?_⟩, trivial⟩
    refine HV.one ?_
    refine H1.st rfl rfl (by intro _ h; cases h) (by intro _ h; cases h) rplA (by simp) ?_
    apply HU.fold
    refine HU.done (by refine KeepU.skip (by kernel_rfl) ?_; exact KeepU.nil) (by kernel_rfl) ?_
    refine hwF7 ?_
    exact HX.again (1, a2, c2) ⟨Nat.le_refl _, fun _ => ha2.resolve_left (by decide)⟩ (by show 1 - 1 < 1 - 0; decide) esA (by repeat (first | exact Hs.nil _ | (refine Hs.cons pickA ?_)))
  · obtain rfl : k = 1 := by omega
    obtain ⟨bz, rfl⟩ := hka rfl
    unfold vL
    refine hwF7 ?_
    refine HL.one (H1.callx (vs := [_]) rfl rfl (fun w' _ => amust_yes w') ?_)
    refine hwF7 ?_
    refine HL.one (H1.ldAgg (b := b5) (vs := vL 1 (some ⟨bz, 0, none⟩) c) rfl memA rfl (fun i v hv => by rw [Nat.zero_add]; exact hv) rfl ?_)
    refine hwF7 ?_
    refine HL.one (H1.stAgg (b := b4) (cs := avZ) (vs := vL 1 (some ⟨bz, 0, none⟩) c) rfl rfl rfl vL_one rplA rfl ?_)
    refine hwF7 ?_
    exact HX.retc1 (b := b4) (cs := vL 1 (some ⟨bz, 0, none⟩) c) rfl rfl memA rfl fun w' hM => ⟨(bz, c), trivial, rfl, hM.sub (by repeat (first | exact Hs.nil _ | (refine Hs.cons pickA ?_)))⟩
end Go.Sx
/- abstraction.Apply at the fixed example: the walks. -/
namespace Go.Sx
open Go Go.Proofs Go.RowKit
theorem hwF8 {G G2 : Prop} (x : G2) (hwq : Hold G2 → G := by
    intro hQq
    repeat' (first | refine HL.pa ?_ (POp.nilCheck rfl) | apply HL.fold | apply HA.fold | apply HL.nil | apply HX.n_then | apply HC.seq | apply HC.region | refine HL.pa ?_ | refine HL.ga rfl ?_ | refine HL.na rfl ?_ | refine HL.nu rfl rfl ?_ | apply HC.block | apply HC.skip | apply HC.exit | apply HC.ret | apply HX.e_block | refine HX.e_other rfl ?_ | apply HX.e_then | apply HX.e_again | apply HX.n_block | apply HX.r_then | apply HX.r_block | apply HX.r_again | refine HC.cond_yes rfl ?_ | refine HC.cond_no rfl ?_ | refine HL.one (H1.ldb rfl memA rfl rfl ?_) | refine HC.cond rfl (fun hc => ?_) (fun hc => ?_) | refine HC.cond_b rfl (fun hc => ?_) (fun hc => ?_))
    exact hQq.get) : G := hwq ⟨x⟩
def xpab : ByteArray := ⟨#[97, 98]⟩
theorem lower_fn (w : World) : Fn Tryz.prog 209 #[.string xpAb] w fun u w' => u = .string xpab ∧ Ext w w' := by
  refine Calls.mono (Tryz.strings_ToLower_ascii xpAb w (by decide) (fun j b h => ?_)) ?_
  · have hm := List.mem_of_getElem? h
    have ha : ∀ b ∈ xpAb.data.toList, b.toNat < 128 := by decide +kernel
    exact ha b hm
  · rintro e w' ⟨h1, h2⟩
    have e1 : (⟨(Lib.toLowerA xpAb.data.toList).toArray⟩ : ByteArray) = xpab := by decide +kernel
    rw [e1] at h1
    exact ⟨_, h1, rfl, h2⟩
def lnS (s : ByteArray) : List Value := [.string s, .slice none 0 0]
abbrev bufH (b : Nat) (a : Option Addr) (c : Nat) (ys : List UInt8) (H : List Atom) : List Atom := A.blk b [.slice a ys.length c] 148 :: A.grow 5 1 a c ys.length (ub ys) :: H
theorem RdK.of_grow {w0 w : World} {H : List Atom} {b c sz : Nat} {e : TypeId} {xs : List Value} (hM : Mm w0 H w) (hm : A.grow e sz (some ⟨b, 0, none⟩) c 1 xs ∈ H) : RdK w (.slice (some ⟨b, 0, none⟩) 1 c) 1 sz fun _ => xs := by
  have ho := hM.own hm
  have hc : 1 ≤ c := by
    rcases ho.2 with ⟨-, h0⟩ | ⟨g, cap, cur, hv, h1, h2, h3, h4, h5, h6, h7⟩
    · cases h0
    · cases hv; omega
  refine ⟨_, _, rfl, hc, .inr ⟨b, 0, rfl, fun i hi j u hu => ?_⟩⟩
  obtain rfl : i = 0 := by omega
  rw [Nat.zero_mul, Nat.zero_add]
  exact ownsRow_cell ho hu
attribute [local irreducible] WC WL WX POp Then Again Fn NX W1 WA WO QL RP RA Yld LoopAt HC HL HX HN H1 HA HO HQ HB HP A.blk A.grow A.rd A.obj A.mp AgainH CutH
attribute [local irreducible] A.mq A.mit
theorem fold_fn {w0 w : World} {H : List Atom} {bz c : Nat} (hM : Mm w0 (A.grow 215 2 (some ⟨bz, 0, none⟩) c 1 (lnS xpAb) :: H) w) :
    Fn Tryz.prog 140 #[.pointer (some ⟨bz, 0, none⟩), zv 0] w fun u w' => u = .tuple #[] ∧ Mm w0 (A.grow 215 2 (some ⟨bz, 0, none⟩) c 1 (lnS xpab) :: H) w' := by
  refine enterK (l := [_, _]) hM rfl Tryz.ntmps140 rfl ?_
  refine hwF8 ?_
  refine HL.one (H1.ldg (b := bz) (c := c) (n := 1) (vs := lnS xpAb) (v := .string xpAb) rfl memA rfl rfl ?_)
  refine hwF8 ?_
  refine HL.one (H1.callx (vs := [_]) rfl rfl (fun w' _ => lower_fn w') ?_)
  refine hwF8 ?_
  refine HL.one (H1.stg (b := bz) (i := 0) (c := c) (n := 1) (xs := lnS xpAb) rfl rfl (by intro _ h; cases h) (by intro _ h; cases h) rplA (by exact Nat.zero_lt_succ 1) ?_)
  refine hwF8 ?_
  exact HX.end0 rfl fun w' hM => ⟨rfl, hM⟩
def xqN (k : Nat) : ByteArray := if k = 0 then xpAb else xpab
theorem each1_fn {w0 w : World} {H : List Atom} {b8 bx bz c : Nat} (hM : Mm w0 (A.grow 215 2 (some ⟨bz, 0, none⟩) c 1 (lnS xpAb) :: A.blk b8 (vL 1 (some ⟨bz, 0, none⟩) c) 160 :: A.blk bx [.func (.func 140) #[] #[]] 218 :: H) w) :
    Fn Tryz.prog 208 #[.pointer (some ⟨b8, 0, none⟩), zv 0, .pointer (some ⟨bx, 0, none⟩)] w fun u w' => u = .tuple #[] ∧ Mm w0 (A.grow 215 2 (some ⟨bz, 0, none⟩) c 1 (lnS xpab) :: A.blk b8 (vL 1 (some ⟨bz, 0, none⟩) c) 160 :: A.blk bx [.func (.func 140) #[] #[]] 218 :: H) w' := by
  refine enterK (l := [_, _, _]) hM rfl Tryz.ntmps208 rfl ?_
  unfold vL
  refine hwF8 ?_
  refine HC.loop (α := Nat) (fun k => [(0, .pointer (some ⟨b8, 0, none⟩)), (1, zv 0), (2, .pointer (some ⟨bx, 0, none⟩)), (10, zv 1), (11, zv (k : Int))]) (fun k => A.grow 215 2 (some ⟨bz, 0, none⟩) c 1 (lnS (xqN k)) :: A.blk b8 [.bool false, .slice (some ⟨bz, 0, none⟩) 1 c, zv 0, zv 0, .string ⟨#[]⟩] 160 :: A.blk bx [.func (.func 140) #[] #[]] 218 :: H) (fun k => k ≤ 1) (fun k => 1 - k) 0 (Nat.zero_le _) esA (Hs.refl _) ?_
  intro k hk
  by_cases h0 : k = 0
  · subst h0
    refine hwF8 ?_
    refine HC.anyC ([(⟨bx, 0, none⟩, .func (.func 140) #[] #[]), (⟨b8, 1, none⟩, .slice (some ⟨bz, 0, none⟩) 1 c)]) rfl ?_
    refine HB.ld 0 rfl rfl memD ?_
    refine HB.pa 1 rfl ?_
    refine HB.pa 2 rfl ?_ (POp.nilCheck rfl)
    refine HB.pa 3 rfl ?_
    refine HB.ld 4 rfl rfl memD ?_
    refine HB.pa 5 rfl ?_
    refine HB.pa 6 rfl ?_
    refine HB.pa 7 rfl ?_
    refine HB.all (by repeat (first | exact Keep.nil | refine Keep.blk (by (repeat (first | exact List.Mem.head _ | apply List.Mem.tail)); done) rfl ?_ | refine Keep.grow (by (repeat (first | exact List.Mem.head _ | apply List.Mem.tail)); done) (by assumption) ?_ | refine Keep.base (by assumption) ?_)) [8] (by kernel_rfl) rfl ⟨⟨_, rfl, ?_⟩, trivial⟩
    refine HP.one ?_
    refine H1.callvk (α := Unit) (V := fun _ => .tuple #[]) (I := fun _ => True) (H' := fun _ => A.grow 215 2 (some ⟨bz, 0, none⟩) c 1 (lnS xpab) :: A.blk b8 [.bool false, .slice (some ⟨bz, 0, none⟩) 1 c, zv 0, zv 0, .string ⟨#[]⟩] 160 :: A.blk bx [.func (.func 140) #[] #[]] 218 :: H) (cap := []) (vs := [.pointer (some ⟨bz, 0, none⟩), zv 0]) rfl rfl rfl (fun w' hM => (fold_fn hM).mono fun u w'' h => ⟨(), trivial, h.1, h.2⟩) ?_
    rintro - -
    apply HB.fold
    refine HB.done (by repeat (first | exact Keep.nil | refine Keep.blk (by (repeat (first | exact List.Mem.head _ | apply List.Mem.tail)); done) rfl ?_ | refine Keep.grow (by (repeat (first | exact List.Mem.head _ | apply List.Mem.tail)); done) (by assumption) ?_ | refine Keep.base (by assumption) ?_)) (by kernel_rfl) ?_
    refine hwF8 ?_
    exact HX.again 1 (Nat.le_refl _) (by show 1 - 1 < 1 - 0; decide) esA (Hs.refl _)
  · obtain rfl : k = 1 := by omega
    refine hwF8 ?_
    exact HX.end0 rfl fun w' hM => ⟨rfl, hM⟩
theorem w1one_fn {w0 w : World} {H : List Atom} {b bl c : Nat} {a : Option Addr} {ys : List UInt8} (n : Nat) (hn : n ≤ 1099511627776) (hM : Mm w0 (bufH b a c ys (A.blk bl [zv (n : Int)] 3 :: H)) w) (hlen : ys.length ≤ 900000) :
    Fn Tryz.prog 148 #[.slice (some ⟨bl, 0, none⟩) 1 1, .pointer (some ⟨b, 0, none⟩)] w fun v w' => ∃ q : Option Addr × Nat, True ∧ v = .tuple #[] ∧ Mm w0 (bufH b q.1 q.2 (ys ++ (strN n).data.toList) H) w' := by
  have hsz := strN_size (n := n) (by omega)
  refine enterK (l := [_, _]) hM rfl Tryz.ntmps148 rfl ?_
  refine hwF8 ?_
  refine HC.loop (α := Nat × Option Addr × Nat) (fun z => [(1, .pointer (some ⟨b, 0, none⟩)), (7, .slice (some ⟨bl, 0, none⟩) 1 1), (8, zv 1), (9, zv (z.1 : Int))])
    (fun z => bufH b z.2.1 z.2.2 (if z.1 = 0 then ys else ys ++ (strN n).data.toList) (A.blk bl [zv (n : Int)] 3 :: H)) (fun z => z.1 ≤ 1) (fun z => 1 - z.1) (0, a, c) (Nat.zero_le _) esA (Hs.refl _) ?_
  rintro ⟨j, a', c'⟩ hj
  dsimp only at hj ⊢
  by_cases h0 : j = 0
  · subst h0
    rw [if_pos rfl]
    refine hwF8 ?_
    refine HL.one (H1.callx (vs := [zv (n : Int)]) rfl rfl (fun w' _ => putInt_fn n (by omega) w') ?_)
    refine hwF8 ?_
    refine HL.one (H1.appS rfl rfl (fun _ _ => by first | ((repeat (first | with_reducible exact Rpl.here | with_reducible apply Rpl.there)); done) | (repeat (first | exact Rpl.here | apply Rpl.there))) (by omega) rfl (fun a2 c2 => ?_))
    refine hwF8 ?_
    refine HL.one (H1.st rfl rfl (by intro _ h; cases h) (by intro _ h; cases h) rplA (by simp) ?_)
    refine hwF8 ?_
    exact HX.again (1, a2, c2) (Nat.le_refl _) (by show 1 - 1 < 1 - 0; decide) esA (Hs.refl _)
  · obtain rfl : j = 1 := by omega
    rw [if_neg (by decide)]
    refine hwF8 ?_
    exact HX.end0 rfl fun w' hM => ⟨(a', c'), trivial, rfl, hM.sub (Hs.cons Pick.here (Hs.cons Pick.here (Hs.refl _).skip))⟩
theorem w1nil_fn (b : Nat) (w : World) : Fn Tryz.prog 148 #[.slice none 0 0, .pointer (some ⟨b, 0, none⟩)] w fun v w' => v = .tuple #[] ∧ Ext w w' := by
  refine enterH (l := [_, _]) rfl Tryz.ntmps148 rfl ?_
  refine hwF8 ?_
  refine HC.loop (α := Unit) (fun _ => [(8, zv 0), (9, zv 0)]) (fun _ => []) (fun _ => True) (fun _ => 0) () trivial esA (by repeat (first | exact Hs.nil _ | (refine Hs.cons pickA ?_))) ?_
  rintro - -
  refine hwF8 ?_
  exact HX.end0 rfl fun w' hM => ⟨rfl, hM.ext⟩
theorem w2_fn {w0 w : World} {H : List Atom} {b c : Nat} {a : Option Addr} {ys : List UInt8} (s : ByteArray) (hs : s.size ≤ 1000) (hM : Mm w0 (bufH b a c ys H) w) (hlen : ys.length ≤ 900000) :
    Fn Tryz.prog 149 #[.string s, .pointer (some ⟨b, 0, none⟩)] w fun v w' => ∃ q : Option Addr × Nat, True ∧ v = .tuple #[] ∧ Mm w0 (bufH b q.1 q.2 (ys ++ (strN s.size ++ s).data.toList) H) w' := by
  have hsz := strN_size (n := s.size) (by omega)
  have hsz2 : (strN s.size ++ s).size = (strN s.size).size + s.size := ByteArray.size_append
  refine enterK (l := [_, _]) hM rfl Tryz.ntmps149 rfl ?_
  refine hwF8 ?_
  refine HL.one (H1.callx (vs := [.string s]) rfl rfl (fun w' _ => putString_fn s (by omega) w') ?_)
  refine hwF8 ?_
  refine HL.one (H1.appS rfl rfl (fun _ _ => by first | ((repeat (first | with_reducible exact Rpl.here | with_reducible apply Rpl.there)); done) | (repeat (first | exact Rpl.here | apply Rpl.there))) (by omega) rfl (fun a2 c2 => ?_))
  refine hwF8 ?_
  refine HL.one (H1.st rfl rfl (by intro _ h; cases h) (by intro _ h; cases h) rplA (by simp) ?_)
  refine hwF8 ?_
  exact HX.end0 rfl fun w' hM => ⟨(a2, c2), trivial, rfl, hM⟩
def xqS1 : List UInt8 := [] ++ (strN 1).data.toList
def xqS2 : List UInt8 := xqS1 ++ (strN xpab.size ++ xpab).data.toList
def xpb : ByteArray := ⟨#[2, 4, 97, 98]⟩
theorem xqS2_eq : (⟨xqS2.toArray⟩ : ByteArray) = xpb := by decide +kernel
def xqS (k : Nat) : List UInt8 := if k = 0 then xqS1 else xqS2
theorem lnS_one (s : ByteArray) : ∀ v ∈ lnS s, v.oneCell' = true := ln_one
set_option maxHeartbeats 2000000 in
theorem awrite_fn (v : Value) (w : World) (hR : RdK w v 1 2 fun _ => lnS xpab) : Fn Tryz.prog 74 #[.agg #[.bool false, v, zv 0, zv 0, .string ⟨#[]⟩], zv 1] w fun u w' => u = .string xpb ∧ Ext w w' := by
  obtain ⟨al, cl, rfl, -, -⟩ := id hR
  obtain ⟨bl0, offl, rfl, hb⟩ := hR.cell (show 0 < 1 by decide)
  have hx := hb 0 (by decide)
  have hl1 : xqS1.length ≤ 1000 := by decide +kernel
  have hne : xqS2.length ≠ 0 := by decide +kernel
  refine enterH (l := [_, _]) rfl Tryz.ntmps74 rfl ?_
  refine hwF8 ?_
  refine HL.one (H1.boxAgg (cs := [.bool false, .slice (some ⟨bl0, offl, none⟩) 1 cl, zv 0, zv 0, .string ⟨#[]⟩]) rfl rfl (fun b2 => ?_))
  refine hwF8 ?_
  refine HL.one (H1.alloc (cs := [.slice none 0 0]) rfl rfl (fun b5 => ?_))
  refine hwF8 ?_
  refine HL.one (H1.lit (cs := [zv 1]) rfl rfl rfl rfl rfl rfl (fun b8 => ?_))
  refine hwF8 ?_
  refine HL.one (H1.callvk (α := Option Addr × Nat) (V := fun _ => .tuple #[]) (I := fun _ => True) (H' := fun q => bufH b5 q.1 q.2 xqS1 [A.blk b2 [.bool false, .slice (some ⟨bl0, offl, none⟩) 1 cl, zv 0, zv 0, .string ⟨#[]⟩] 160]) (cap := [.pointer (some ⟨b5, 0, none⟩)]) (vs := [.slice (some ⟨b8, 0, none⟩) 1 1]) rfl rfl rfl
    (fun w' hM => w1one_fn (a := none) (c := 0) (ys := []) 1 (by decide) ((hM.grow0 5 1).sub (by repeat (first | exact Hs.nil _ | (refine Hs.cons pickA ?_)))) (by decide)) ?_)
  rintro ⟨a1, c1⟩ -
  dsimp only
  refine hwF8 ?_
  refine HC.loop (α := Nat × Option Addr × Nat) (fun z => [(1, zv 1), (5, .pointer (some ⟨b5, 0, none⟩)), (6, .func (.func 148) #[] #[.pointer (some ⟨b5, 0, none⟩)]), (7, .func (.func 149) #[] #[.pointer (some ⟨b5, 0, none⟩)]), (19, .slice (some ⟨bl0, offl, none⟩) 1 cl), (20, zv 1), (21, zv (z.1 : Int))])
    (fun z => bufH b5 z.2.1 z.2.2 (xqS z.1) []) (fun z => z.1 ≤ 1) (fun z => 1 - z.1) (0, a1, c1) (Nat.zero_le _) esA (Hs.cons Pick.here (Hs.cons Pick.here (Hs.refl _).skip)) ?_
  rintro ⟨j, a', c'⟩ hj
  dsimp only at hj ⊢
  by_cases h0 : j = 0
  · subst h0
    refine hwF8 ?_
    refine HL.one (H1.ldAggw (b := bl0) (off := offl + 0 * 2) (vs := lnS xpab) rfl rfl (fun w' hM i u hu => cell_ext hM.ext (hx i u hu)) rfl ?_)
    refine hwF8 ?_
    refine HL.one (H1.alloc (cs := [.string ⟨#[]⟩, .slice none 0 0]) rfl rfl (fun b9 => ?_))
    refine hwF8 ?_
    refine HL.one (H1.stAgg (b := b9) (cs := [.string ⟨#[]⟩, .slice none 0 0]) (vs := lnS xpab) rfl rfl rfl (lnS_one _) rplA rfl ?_)
    unfold lnS
    refine hwF8 ?_
    refine HL.one (H1.callvk (α := Option Addr × Nat) (V := fun _ => .tuple #[]) (I := fun _ => True) (H' := fun q => bufH b5 q.1 q.2 xqS2 [A.blk b9 [.string xpab, .slice none 0 0] 215]) (cap := [.pointer (some ⟨b5, 0, none⟩)]) (vs := [.string xpab]) rfl rfl rfl
      (fun w' hM => w2_fn (ys := xqS1) xpab (by decide) (hM.sub (Hs.cons (Pick.there Pick.here) (Hs.cons (Pick.there Pick.here) (Hs.cons Pick.here (Hs.refl _))))) (by omega)) ?_)
    rintro ⟨a3, c3⟩ -
    dsimp only
    refine hwF8 ?_
    refine HL.one (H1.callv0 (u := .tuple #[]) (cap := [.pointer (some ⟨b5, 0, none⟩)]) (vs := [_]) rfl rfl rfl (fun w' _ => w1nil_fn b5 w') ?_)
    refine hwF8 ?_
    exact HX.again (1, a3, c3) (Nat.le_refl _) (by show 1 - 1 < 1 - 0; decide) esA (Hs.cons Pick.here (Hs.cons Pick.here (Hs.refl _).skip))
  · obtain rfl : j = 1 := by omega
    show HC _ _ _ _ _ _ _ _ (bufH b5 a' c' xqS2 [])
    refine HC.openg (e := 5) (a := a') (xs := ub xqS2) (.tail _ (.head _)) hne ?_
    rintro g rfl
    refine hwF8 ?_
    refine HL.one (H1.bstrg (b := g) (c := c') (ys := xqS2) rfl (.tail _ (.head _)) rfl ?_)
    rw [xqS2_eq]
    refine hwF8 ?_
    exact HX.ret1 rfl rfl fun w' hM => ⟨rfl, hM.ext⟩
end Go.Sx
