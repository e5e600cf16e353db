/-
  DERIVED: THE SHELF's CONTRACTS AT THIS DUMP, IN PLAIN WORDS (tools/lay-plain.mjs out of 'TryzShelf.lean', which tools/lay-shelf.mjs wrote): THE SAME DECLARATIONS UNDER THE SAME NAMES: 'import', 'namespace', 'open', 'def', 'theorem' AND NOTHING ELSE: no command of the shelf's: FOR A HAND-IN. Each laying: the table of numbers ('.._ren') and one theorem, a field a fact of the dump's own or the kernel's comparison; each contract: ONE APPLICATION.
-/
import Derived.Shelf.Strings.Builder1
import Derived.Shelf.Strings.Builder2
import Derived.Shelf.Strings.OnBuilder
import Derived.Shelf.Strings.Trim
import Derived.Shelf.Small.Utf8
import Derived.Shelf.Small.Bits
import Derived.Shelf.Small.Strs
import Derived.Shelf.Small.Wraps
import Derived.Shelf.Strings.BuilderF
import Derived.Shelf.Strings.BuilderK
import Derived.Shelf.Utf8.RuneCount
import Derived.Shelf.Strconv.Atoi
import Derived.Shelf.Strconv.Itoa0
import Derived.Shelf.Strconv.Itoa1
import Derived.Shelf.LaysM
import Derived.Shelf.Strconv.Itoa2
import Derived.Shelf.Strconv.Itoa3
import Derived.Shelf.Strconv.AtoiErrFast
import Derived.Shelf.Strconv.ParseIntEmpty
import Derived.Shelf.Strconv.AtoiFail
import Derived.Shelf.Strconv.Clone
import Derived.Shelf.Strconv.SyntaxError
import Derived.Shelf.LaysC
import Derived.Shelf.Strconv.ToError
import Derived.Shelf.Strconv.AtoiErr
import Derived.Shelf.Strconv.ErrVar
import Derived.Shelf.Strconv.Lower
import Derived.Shelf.Strconv.ParseUint10
import Derived.Shelf.Strconv.ParseUint10Empty
import Derived.Shelf.Strconv.ParseUint10Any
import Derived.Shelf.Strconv.ParseInt10
import Derived.Shelf.Strconv.AtoiLong
import Derived.Shelf.Strconv.AtoiInnerAll
import Derived.Shelf.Strconv.RangeError
import Derived.Shelf.Strconv.ToErrorRange
import Derived.Shelf.Strconv.AtoiAll
import Derived.Shelf.Strconv.ErrVarAll
import Derived.Shelf.Strconv.ParseUintEmpty
import Derived.Shelf.Strconv.ParseUint10b64
import Derived.Shelf.Strconv.ParseUint10b32
import Derived.Shelf.Strconv.ParseUint10b16
import Derived.Shelf.Strconv.ParseUint10b8
import Derived.Shelf.Strconv.ParseUint10At
import Derived.Shelf.Strconv.ParseInt10At64
import Derived.Shelf.Strconv.ParseInt10At32
import Derived.Shelf.Strconv.ParseInt10At16
import Derived.Shelf.Strconv.ParseInt10At8
import Derived.Shelf.Strconv.ParseInt10All
import Derived.Shelf.Strings.Search1
import Derived.Shelf.Strings.Search2
import Derived.Shelf.Strings.Search3
import Derived.Shelf.Strings.Cut
import Derived.Shelf.Strings.Count
import Derived.Shelf.Strings.Shaped
import Derived.Shelf.Sort.Plain
import Derived.Shelf.Strings.Prefix
import Derived.Shelf.Strings.Split
import Derived.Shelf.Strings.SplitShaped
import Derived.Shelf.Unicode.Decode
import Derived.Shelf.Strings.Runes
import Derived.Shelf.Strings.RuneCount
import Derived.Shelf.Strings.AsciiSet
import Derived.Shelf.Strings.Explode
import Derived.Shelf.Unicode.DecodeSlow
import Derived.Shelf.Unicode.DecodeAny
import Derived.Shelf.Unicode.DecodeLast
import Derived.Shelf.Slices.Turned
import Derived.Shelf.Slices.Reverse
import Derived.Shelf.Slices.Equal
import Derived.Ground.Names2Prog
import Derived.Shelf.Slices.Clone
import Derived.Shelf.Slices.CompactS
import Derived.Shelf.Slices.SearchI
import Derived.Shelf.Slices.Cells
import Derived.Shelf.Slices.In.SortNone
import Derived.Shelf.Slices.Empties2
import Derived.Ground.SlgnProg
import Derived.Shelf.SlicesE.Equal
import Derived.Shelf.SlicesE.Compact
import Derived.Shelf.SlicesE.Clone
import Derived.Ground.SlgfProg
import Derived.Shelf.SlicesE.IndexFunc
import Derived.Test.YtklggnglaeagpaaGreatDoorProg
namespace Go.Proofs
open Go.Shelf
def Tryz.lays170_ren : Go.Shelf.Ren := ⟨fun | 170 => 174 | n => n, fun | 70 => 240 | 3 => 3 | 0 => 0 | 72 => 243 | 37 => 241 | 5 => 5 | n => n, fun | n => n⟩
theorem Tryz.lays170 : Go.Proofs.Lays.n170 Tryz.prog Tryz.lays170_ren := {
  mixed := by kernel_rfl
  f170 := Tryz.func174.trans (congrArg some (by kernel_rfl))
  t0 := Tryz.underlying0
  a0 := Tryz.isAgg0
  z0 := Tryz.sizeOf0
  v0 := Tryz.zeroValue0
  t3 := Tryz.underlying3
  a3 := Tryz.isAgg3
  z3 := Tryz.sizeOf3
  v3 := Tryz.zeroValue3
  t37 := Tryz.underlying241
  a37 := Tryz.isAgg241
  z37 := Tryz.sizeOf241
  v37 := Tryz.zeroValue241
  t70 := Tryz.underlying240
  a70 := Tryz.isAgg240
  z70 := Tryz.sizeOf240
  v70 := Tryz.zeroValue240
  t72 := Tryz.underlying243
  a72 := Tryz.isAgg243
  z72 := Tryz.sizeOf243
  v72 := Tryz.zeroValue243 }
def Tryz.lays169_ren : Go.Shelf.Ren := ⟨fun | 169 => 175 | n => n, fun | 70 => 240 | 9 => 9 | 0 => 0 | 72 => 243 | 37 => 241 | 127 => 313 | 3 => 3 | 5 => 5 | n => n, fun | n => n⟩
theorem Tryz.lays169 : Go.Proofs.Lays.n169 Tryz.prog Tryz.lays169_ren := {
  mixed := by kernel_rfl
  f169 := Tryz.func175.trans (congrArg some (by kernel_rfl))
  t0 := Tryz.underlying0
  a0 := Tryz.isAgg0
  z0 := Tryz.sizeOf0
  v0 := Tryz.zeroValue0
  t3 := Tryz.underlying3
  a3 := Tryz.isAgg3
  z3 := Tryz.sizeOf3
  v3 := Tryz.zeroValue3
  t9 := Tryz.underlying9
  a9 := Tryz.isAgg9
  z9 := Tryz.sizeOf9
  v9 := Tryz.zeroValue9
  t37 := Tryz.underlying241
  a37 := Tryz.isAgg241
  z37 := Tryz.sizeOf241
  v37 := Tryz.zeroValue241
  t70 := Tryz.underlying240
  a70 := Tryz.isAgg240
  z70 := Tryz.sizeOf240
  v70 := Tryz.zeroValue240
  t72 := Tryz.underlying243
  a72 := Tryz.isAgg243
  z72 := Tryz.sizeOf243
  v72 := Tryz.zeroValue243
  t127 := Tryz.underlying313
  a127 := Tryz.isAgg313
  z127 := Tryz.sizeOf313
  v127 := Tryz.zeroValue313 }
theorem Tryz.Builder_Extra_169 : Builder.Extra Tryz.prog Tryz.lays169_ren := {
  sizeBuilder := by kernel_rfl
  liesBuilder := by kernel_rfl
  t5 := Tryz.underlying5
  a5 := Tryz.isAgg5
  z5 := Tryz.sizeOf5
  v5 := Tryz.zeroValue5
  infoByte := by kernel_rfl
  cellsByte := by kernel_rfl
  sizeByte := by kernel_rfl
  neB5 := by decide }
def Tryz.lays156_ren : Go.Shelf.Ren := ⟨fun | 156 => 173 | 165 => 264 | 166 => 172 | 169 => 175 | 240 => 263 | 241 => 339 | 276 => 338 | 277 => 408 | n => n, fun | 31 => 97 | 9 => 9 | 3 => 3 | 4 => 4 | 0 => 0 | 20 => 20 | 72 => 243 | 76 => 246 | 70 => 240 | 37 => 241 | 75 => 245 | 127 => 313 | 164 => 369 | 5 => 5 | 80 => 124 | n => n, fun | n => n⟩
theorem Tryz.lays156 : Go.Proofs.Lays.n156 Tryz.prog Tryz.lays156_ren := {
  mixed := by kernel_rfl
  f156 := Tryz.func173.trans (congrArg some (by kernel_rfl))
  f165 := Tryz.func264.trans (congrArg some (by kernel_rfl))
  f166 := Tryz.func172.trans (congrArg some (by kernel_rfl))
  f169 := Tryz.func175.trans (congrArg some (by kernel_rfl))
  f240 := Tryz.func263.trans (congrArg some (by kernel_rfl))
  f241 := Tryz.func339.trans (congrArg some (by kernel_rfl))
  f276 := Tryz.func338.trans (congrArg some (by kernel_rfl))
  f277 := Tryz.func408.trans (congrArg some (by kernel_rfl))
  t0 := Tryz.underlying0
  a0 := Tryz.isAgg0
  z0 := Tryz.sizeOf0
  v0 := Tryz.zeroValue0
  t3 := Tryz.underlying3
  a3 := Tryz.isAgg3
  z3 := Tryz.sizeOf3
  v3 := Tryz.zeroValue3
  t4 := Tryz.underlying4
  a4 := Tryz.isAgg4
  z4 := Tryz.sizeOf4
  v4 := Tryz.zeroValue4
  t9 := Tryz.underlying9
  a9 := Tryz.isAgg9
  z9 := Tryz.sizeOf9
  v9 := Tryz.zeroValue9
  t20 := Tryz.underlying20
  a20 := Tryz.isAgg20
  z20 := Tryz.sizeOf20
  v20 := Tryz.zeroValue20
  t31 := Tryz.underlying97
  a31 := Tryz.isAgg97
  z31 := Tryz.sizeOf97
  v31 := Tryz.zeroValue97
  t37 := Tryz.underlying241
  a37 := Tryz.isAgg241
  z37 := Tryz.sizeOf241
  v37 := Tryz.zeroValue241
  t70 := Tryz.underlying240
  a70 := Tryz.isAgg240
  z70 := Tryz.sizeOf240
  v70 := Tryz.zeroValue240
  t72 := Tryz.underlying243
  a72 := Tryz.isAgg243
  z72 := Tryz.sizeOf243
  v72 := Tryz.zeroValue243
  t75 := Tryz.underlying245
  a75 := Tryz.isAgg245
  z75 := Tryz.sizeOf245
  v75 := Tryz.zeroValue245
  t76 := Tryz.underlying246
  a76 := Tryz.isAgg246
  z76 := Tryz.sizeOf246
  v76 := Tryz.zeroValue246
  t127 := Tryz.underlying313
  a127 := Tryz.isAgg313
  z127 := Tryz.sizeOf313
  v127 := Tryz.zeroValue313
  t164 := Tryz.underlying369
  a164 := Tryz.isAgg369
  z164 := Tryz.sizeOf369
  v164 := Tryz.zeroValue369 }
theorem Tryz.Builder_Extra_156 : Builder.Extra Tryz.prog Tryz.lays156_ren := {
  sizeBuilder := by kernel_rfl
  liesBuilder := by kernel_rfl
  t5 := Tryz.underlying5
  a5 := Tryz.isAgg5
  z5 := Tryz.sizeOf5
  v5 := Tryz.zeroValue5
  infoByte := by kernel_rfl
  cellsByte := by kernel_rfl
  sizeByte := by kernel_rfl
  neB5 := by decide }
open Go.RowKit in
theorem Tryz.strings_Join_none (a : Option Addr) (c : Nat) (sep : ByteArray) (w : World) :
    Calls Tryz.prog 173 #[.slice a 0 c, .string sep] w fun e w' => e = .returned (.string ⟨#[]⟩) ∧ w' = w := Any.strings_Join_none Tryz.lays156 Tryz.Builder_Extra_156 a c sep w
open Go.RowKit in
theorem Tryz.strings_Join (bk o c : Nat) (xs : List ByteArray) (sep : ByteArray) (w : World) (hcells : ∀ (j : Nat) x, xs[j]? = some x → w.cell? ⟨bk, o + j, none⟩ = some (.string x)) (hbk : bk < w.heap.size) (hN : xs.length ≤ 140737488355328) (hcap : xs.length ≤ c) (hlen : (Lib.join (xs.map (·.data.toList)) sep.data.toList).length ≤ 140737488355328) :
    Calls Tryz.prog 173 #[.slice (some ⟨bk, o, none⟩) xs.length c, .string sep] w fun e w' => e = .returned (.string ⟨(Lib.join (xs.map (·.data.toList)) sep.data.toList).toArray⟩) ∧ Below w.heap.size w w' := Any.strings_Join Tryz.lays156 Tryz.Builder_Extra_156 bk o c xs sep w hcells hbk hN hcap hlen
def Tryz.lays160_ren : Go.Shelf.Ren := ⟨fun | 160 => 224 | 232 => 291 | 231 => 290 | 227 => 292 | 234 => 294 | 233 => 293 | 236 => 296 | 235 => 295 | 228 => 378 | 271 => 381 | 151 => 380 | 197 => 379 | 120 => 433 | 152 => 432 | 260 => 431 | 137 => 225 | 119 => 465 | 224 => 453 | 225 => 452 | 217 => 297 | 266 => 382 | n => n, fun | 9 => 9 | 4 => 4 | 3 => 3 | 5 => 5 | 117 => 336 | 116 => 335 | 0 => 0 | 124 => 339 | 21 => 21 | 105 => 397 | 46 => 292 | 119 => 459 | 139 => 462 | 138 => 461 | n => n, fun | 3 => 4 | 4 => 5 | n => n⟩
theorem Tryz.lays160 : Go.Proofs.Lays.n160 Tryz.prog Tryz.lays160_ren := {
  mixed := by kernel_rfl
  f119 := Tryz.func465.trans (congrArg some (by kernel_rfl))
  f120 := Tryz.func433.trans (congrArg some (by kernel_rfl))
  f137 := Tryz.func225.trans (congrArg some (by kernel_rfl))
  f151 := Tryz.func380.trans (congrArg some (by kernel_rfl))
  f152 := Tryz.func432.trans (congrArg some (by kernel_rfl))
  f160 := Tryz.func224.trans (congrArg some (by kernel_rfl))
  f197 := Tryz.func379.trans (congrArg some (by kernel_rfl))
  f217 := Tryz.func297.trans (congrArg some (by kernel_rfl))
  f224 := Tryz.func453.trans (congrArg some (by kernel_rfl))
  f225 := Tryz.func452.trans (congrArg some (by kernel_rfl))
  f227 := Tryz.func292.trans (congrArg some (by kernel_rfl))
  f228 := Tryz.func378.trans (congrArg some (by kernel_rfl))
  f231 := Tryz.func290.trans (congrArg some (by kernel_rfl))
  f232 := Tryz.func291.trans (congrArg some (by kernel_rfl))
  f233 := Tryz.func293.trans (congrArg some (by kernel_rfl))
  f234 := Tryz.func294.trans (congrArg some (by kernel_rfl))
  f235 := Tryz.func295.trans (congrArg some (by kernel_rfl))
  f236 := Tryz.func296.trans (congrArg some (by kernel_rfl))
  f260 := Tryz.func431.trans (congrArg some (by kernel_rfl))
  f266 := Tryz.func382.trans (congrArg some (by kernel_rfl))
  f271 := Tryz.func381.trans (congrArg some (by kernel_rfl))
  t0 := Tryz.underlying0
  a0 := Tryz.isAgg0
  z0 := Tryz.sizeOf0
  v0 := Tryz.zeroValue0
  t3 := Tryz.underlying3
  a3 := Tryz.isAgg3
  z3 := Tryz.sizeOf3
  v3 := Tryz.zeroValue3
  t4 := Tryz.underlying4
  a4 := Tryz.isAgg4
  z4 := Tryz.sizeOf4
  v4 := Tryz.zeroValue4
  t5 := Tryz.underlying5
  a5 := Tryz.isAgg5
  z5 := Tryz.sizeOf5
  v5 := Tryz.zeroValue5
  t9 := Tryz.underlying9
  a9 := Tryz.isAgg9
  z9 := Tryz.sizeOf9
  v9 := Tryz.zeroValue9
  t21 := Tryz.underlying21
  a21 := Tryz.isAgg21
  z21 := Tryz.sizeOf21
  v21 := Tryz.zeroValue21
  t46 := Tryz.underlying292
  a46 := Tryz.isAgg292
  z46 := Tryz.sizeOf292
  v46 := Tryz.zeroValue292
  t105 := Tryz.underlying397
  a105 := Tryz.isAgg397
  z105 := Tryz.sizeOf397
  v105 := Tryz.zeroValue397
  t116 := Tryz.underlying335
  a116 := Tryz.isAgg335
  z116 := Tryz.sizeOf335
  t117 := Tryz.underlying336
  a117 := Tryz.isAgg336
  z117 := Tryz.sizeOf336
  v117 := Tryz.zeroValue336
  t119 := Tryz.underlying459
  a119 := Tryz.isAgg459
  z119 := Tryz.sizeOf459
  t124 := Tryz.underlying339
  a124 := Tryz.isAgg339
  z124 := Tryz.sizeOf339
  v124 := Tryz.zeroValue339
  t138 := Tryz.underlying461
  a138 := Tryz.isAgg461
  z138 := Tryz.sizeOf461
  v138 := Tryz.zeroValue461
  t139 := Tryz.underlying462
  a139 := Tryz.isAgg462
  z139 := Tryz.sizeOf462
  v139 := Tryz.zeroValue462
  g3 := by kernel_rfl
  g4 := by kernel_rfl }
def Tryz.lays125_ren : Go.Shelf.Ren := ⟨fun | 125 => 236 | 128 => 309 | 129 => 310 | n => n, fun | 46 => 292 | 3 => 3 | 51 => 350 | 53 => 352 | 4 => 4 | 5 => 5 | 9 => 9 | n => n, fun | n => n⟩
theorem Tryz.lays125 : Go.Proofs.Lays.n125 Tryz.prog Tryz.lays125_ren := {
  mixed := by kernel_rfl
  f125 := Tryz.func236.trans (congrArg some (by kernel_rfl))
  f128 := Tryz.func309.trans (congrArg some (by kernel_rfl))
  f129 := Tryz.func310.trans (congrArg some (by kernel_rfl))
  t3 := Tryz.underlying3
  a3 := Tryz.isAgg3
  z3 := Tryz.sizeOf3
  v3 := Tryz.zeroValue3
  t4 := Tryz.underlying4
  a4 := Tryz.isAgg4
  z4 := Tryz.sizeOf4
  v4 := Tryz.zeroValue4
  t5 := Tryz.underlying5
  a5 := Tryz.isAgg5
  z5 := Tryz.sizeOf5
  v5 := Tryz.zeroValue5
  t9 := Tryz.underlying9
  a9 := Tryz.isAgg9
  z9 := Tryz.sizeOf9
  v9 := Tryz.zeroValue9
  t46 := Tryz.underlying292
  a46 := Tryz.isAgg292
  z46 := Tryz.sizeOf292
  v46 := Tryz.zeroValue292
  t51 := Tryz.underlying350
  a51 := Tryz.isAgg350
  z51 := Tryz.sizeOf350
  v51 := Tryz.zeroValue350
  t53 := Tryz.underlying352
  a53 := Tryz.isAgg352
  z53 := Tryz.sizeOf352
  v53 := Tryz.zeroValue352 }
theorem Tryz.bits_Len (x : Int) (w : World) (h0 : 0 ≤ x) (h1 : x ≤ 18446744073709551615) :
    Calls Tryz.prog 236 #[.int .u64 x] w fun e w' => e = .returned (.int .i64 (Lib.bitLen x.toNat)) ∧ w' = w := Any.bits_Len Tryz.lays125 x w h0 h1
def Tryz.lays106_ren : Go.Shelf.Ren := ⟨fun | 106 => 170 | 213 => 262 | 265 => 337 | n => n, fun | 9 => 9 | 3 => 3 | n => n, fun | n => n⟩
theorem Tryz.lays106 : Go.Proofs.Lays.n106 Tryz.prog Tryz.lays106_ren := {
  mixed := by kernel_rfl
  f106 := Tryz.func170.trans (congrArg some (by kernel_rfl))
  f213 := Tryz.func262.trans (congrArg some (by kernel_rfl))
  f265 := Tryz.func337.trans (congrArg some (by kernel_rfl))
  t3 := Tryz.underlying3
  a3 := Tryz.isAgg3
  z3 := Tryz.sizeOf3
  v3 := Tryz.zeroValue3
  t9 := Tryz.underlying9
  a9 := Tryz.isAgg9
  z9 := Tryz.sizeOf9
  v9 := Tryz.zeroValue9 }
open Go.RowKit in
theorem Tryz.strings_Compare (a b : ByteArray) (w : World) :
    Calls Tryz.prog 170 #[.string a, .string b] w fun e w' => e = .returned (.int .i64 (Lib.compareBytes a.data.toList b.data.toList)) ∧ w' = w := Any.strings_Compare Tryz.lays106 a b w
def Tryz.lays137_ren : Go.Shelf.Ren := ⟨fun | 137 => 225 | 217 => 297 | 266 => 382 | n => n, fun | 9 => 9 | 5 => 5 | 3 => 3 | n => n, fun | n => n⟩
theorem Tryz.lays137 : Go.Proofs.Lays.n137 Tryz.prog Tryz.lays137_ren := {
  mixed := by kernel_rfl
  f137 := Tryz.func225.trans (congrArg some (by kernel_rfl))
  f217 := Tryz.func297.trans (congrArg some (by kernel_rfl))
  f266 := Tryz.func382.trans (congrArg some (by kernel_rfl))
  t3 := Tryz.underlying3
  a3 := Tryz.isAgg3
  z3 := Tryz.sizeOf3
  v3 := Tryz.zeroValue3
  t5 := Tryz.underlying5
  a5 := Tryz.isAgg5
  z5 := Tryz.sizeOf5
  v5 := Tryz.zeroValue5
  t9 := Tryz.underlying9
  a9 := Tryz.isAgg9
  z9 := Tryz.sizeOf9
  v9 := Tryz.zeroValue9 }
open Go.RowKit in
theorem Tryz.strings_IndexByte (s : ByteArray) (c : Int) (w : World) :
    Calls Tryz.prog 225 #[.string s, .int .u8 c] w fun e w' => e = .returned (.int .i64 (Lib.indexByte s.data.toList c.toNat.toUInt8)) ∧ w' = w := Any.strings_IndexByte Tryz.lays137 s c w
def Tryz.lays103_ren : Go.Shelf.Ren := ⟨fun | 103 => 362 | 210 => 418 | 206 => 455 | n => n, fun | 9 => 9 | 4 => 4 | 24 => 383 | 3 => 3 | n => n, fun | n => n⟩
theorem Tryz.lays103 : Go.Proofs.Lays.n103 Tryz.prog Tryz.lays103_ren := {
  mixed := by kernel_rfl
  f103 := Tryz.func362.trans (congrArg some (by kernel_rfl))
  f206 := Tryz.func455.trans (congrArg some (by kernel_rfl))
  f210 := Tryz.func418.trans (congrArg some (by kernel_rfl))
  t3 := Tryz.underlying3
  a3 := Tryz.isAgg3
  z3 := Tryz.sizeOf3
  v3 := Tryz.zeroValue3
  t4 := Tryz.underlying4
  a4 := Tryz.isAgg4
  z4 := Tryz.sizeOf4
  v4 := Tryz.zeroValue4
  t9 := Tryz.underlying9
  a9 := Tryz.isAgg9
  z9 := Tryz.sizeOf9
  v9 := Tryz.zeroValue9
  t24 := Tryz.underlying383
  a24 := Tryz.isAgg383
  z24 := Tryz.sizeOf383
  v24 := Tryz.zeroValue383 }
open Go.RowKit in
theorem Tryz.strings_CutPrefix (s p : ByteArray) (w : World) :
    Calls Tryz.prog 362 #[.string s, .string p] w fun e w' => e = .returned (.tuple #[.string ⟨(Lib.trimPrefix s.data.toList p.data.toList).toArray⟩, .bool (Lib.hasPrefix s.data.toList p.data.toList)]) ∧ w' = w := Any.strings_CutPrefix Tryz.lays103 s p w
def Tryz.lays122_ren : Go.Shelf.Ren := ⟨fun | 122 => 121 | 215 => 232 | n => n, fun | 3 => 3 | 4 => 4 | n => n, fun | n => n⟩
theorem Tryz.lays122 : Go.Proofs.Lays.n122 Tryz.prog Tryz.lays122_ren := {
  mixed := by kernel_rfl
  f122 := Tryz.func121.trans (congrArg some (by kernel_rfl))
  f215 := Tryz.func232.trans (congrArg some (by kernel_rfl))
  t3 := Tryz.underlying3
  a3 := Tryz.isAgg3
  z3 := Tryz.sizeOf3
  v3 := Tryz.zeroValue3
  t4 := Tryz.underlying4
  a4 := Tryz.isAgg4
  z4 := Tryz.sizeOf4
  v4 := Tryz.zeroValue4 }
open Go.RowKit in
theorem Tryz.cmp_Compare_int (x y : Int) (w : World) :
    Calls Tryz.prog 121 #[.int .i64 x, .int .i64 y] w fun e w' => e = .returned (.int .i64 (Lib.compareInt x y)) ∧ w' = w := Any.cmp_Compare_int Tryz.lays122 x y w
def Tryz.lays172_ren : Go.Shelf.Ren := ⟨fun | 172 => 287 | 244 => 372 | 245 => 373 | 247 => 422 | 279 => 423 | 280 => 424 | 281 => 425 | 282 => 426 | 287 => 460 | 316 => 461 | 171 => 109 | 205 => 462 | 321 => 472 | 322 => 473 | 243 => 222 | 246 => 289 | 283 => 374 | 284 => 375 | 285 => 376 | 286 => 377 | 129 => 310 | 317 => 427 | 318 => 428 | 319 => 429 | 320 => 430 | 337 => 463 | 338 => 464 | n => n, fun | 9 => 9 | 3 => 3 | 75 => 245 | 76 => 246 | 4 => 4 | 5 => 5 | 167 => 427 | 37 => 241 | 0 => 0 | 85 => 428 | 2 => 2 | 168 => 430 | 53 => 352 | 175 => 453 | 46 => 292 | 210 => 457 | 127 => 313 | 145 => 472 | 143 => 470 | 21 => 21 | 171 => 392 | 173 => 394 | 212 => 434 | 51 => 350 | 20 => 20 | 213 => 435 | 232 => 473 | 233 => 474 | 80 => 124 | n => n, fun | 15 => 2 | 16 => 3 | 17 => 1 | 18 => 6 | 19 => 7 | n => n⟩
theorem Tryz.lays172 : Go.Proofs.Lays.n172 Tryz.prog Tryz.lays172_ren := {
  mixed := by kernel_rfl
  f129 := Tryz.func310.trans (congrArg some (by kernel_rfl))
  f171 := Tryz.func109.trans (congrArg some (by kernel_rfl))
  f172 := Tryz.func287.trans (congrArg some (by kernel_rfl))
  f205 := Tryz.func462.trans (congrArg some (by kernel_rfl))
  f243 := Tryz.func222.trans (congrArg some (by kernel_rfl))
  f244 := Tryz.func372.trans (congrArg some (by kernel_rfl))
  f245 := Tryz.func373.trans (congrArg some (by kernel_rfl))
  f246 := Tryz.func289.trans (congrArg some (by kernel_rfl))
  f247 := Tryz.func422.trans (congrArg some (by kernel_rfl))
  f279 := Tryz.func423.trans (congrArg some (by kernel_rfl))
  f280 := Tryz.func424.trans (congrArg some (by kernel_rfl))
  f281 := Tryz.func425.trans (congrArg some (by kernel_rfl))
  f282 := Tryz.func426.trans (congrArg some (by kernel_rfl))
  f283 := Tryz.func374.trans (congrArg some (by kernel_rfl))
  f284 := Tryz.func375.trans (congrArg some (by kernel_rfl))
  f285 := Tryz.func376.trans (congrArg some (by kernel_rfl))
  f286 := Tryz.func377.trans (congrArg some (by kernel_rfl))
  f287 := Tryz.func460.trans (congrArg some (by kernel_rfl))
  f316 := Tryz.func461.trans (congrArg some (by kernel_rfl))
  f317 := Tryz.func427.trans (congrArg some (by kernel_rfl))
  f318 := Tryz.func428.trans (congrArg some (by kernel_rfl))
  f319 := Tryz.func429.trans (congrArg some (by kernel_rfl))
  f320 := Tryz.func430.trans (congrArg some (by kernel_rfl))
  f321 := Tryz.func472.trans (congrArg some (by kernel_rfl))
  f322 := Tryz.func473.trans (congrArg some (by kernel_rfl))
  f337 := Tryz.func463.trans (congrArg some (by kernel_rfl))
  f338 := Tryz.func464.trans (congrArg some (by kernel_rfl))
  t0 := Tryz.underlying0
  a0 := Tryz.isAgg0
  z0 := Tryz.sizeOf0
  v0 := Tryz.zeroValue0
  t2 := Tryz.underlying2
  a2 := Tryz.isAgg2
  z2 := Tryz.sizeOf2
  v2 := Tryz.zeroValue2
  t3 := Tryz.underlying3
  a3 := Tryz.isAgg3
  z3 := Tryz.sizeOf3
  v3 := Tryz.zeroValue3
  t4 := Tryz.underlying4
  a4 := Tryz.isAgg4
  z4 := Tryz.sizeOf4
  v4 := Tryz.zeroValue4
  t5 := Tryz.underlying5
  a5 := Tryz.isAgg5
  z5 := Tryz.sizeOf5
  v5 := Tryz.zeroValue5
  t9 := Tryz.underlying9
  a9 := Tryz.isAgg9
  z9 := Tryz.sizeOf9
  v9 := Tryz.zeroValue9
  t20 := Tryz.underlying20
  a20 := Tryz.isAgg20
  z20 := Tryz.sizeOf20
  v20 := Tryz.zeroValue20
  t21 := Tryz.underlying21
  a21 := Tryz.isAgg21
  z21 := Tryz.sizeOf21
  v21 := Tryz.zeroValue21
  t37 := Tryz.underlying241
  a37 := Tryz.isAgg241
  z37 := Tryz.sizeOf241
  v37 := Tryz.zeroValue241
  t46 := Tryz.underlying292
  a46 := Tryz.isAgg292
  z46 := Tryz.sizeOf292
  v46 := Tryz.zeroValue292
  t51 := Tryz.underlying350
  a51 := Tryz.isAgg350
  z51 := Tryz.sizeOf350
  v51 := Tryz.zeroValue350
  t53 := Tryz.underlying352
  a53 := Tryz.isAgg352
  z53 := Tryz.sizeOf352
  v53 := Tryz.zeroValue352
  t75 := Tryz.underlying245
  a75 := Tryz.isAgg245
  z75 := Tryz.sizeOf245
  v75 := Tryz.zeroValue245
  t76 := Tryz.underlying246
  a76 := Tryz.isAgg246
  z76 := Tryz.sizeOf246
  v76 := Tryz.zeroValue246
  t85 := Tryz.underlying428
  a85 := Tryz.isAgg428
  z85 := Tryz.sizeOf428
  v85 := Tryz.zeroValue428
  t127 := Tryz.underlying313
  a127 := Tryz.isAgg313
  z127 := Tryz.sizeOf313
  v127 := Tryz.zeroValue313
  t143 := Tryz.underlying470
  a143 := Tryz.isAgg470
  z143 := Tryz.sizeOf470
  v143 := Tryz.zeroValue470
  t145 := Tryz.underlying472
  a145 := Tryz.isAgg472
  z145 := Tryz.sizeOf472
  v145 := Tryz.zeroValue472
  t167 := Tryz.underlying427
  a167 := Tryz.isAgg427
  z167 := Tryz.sizeOf427
  v167 := Tryz.zeroValue427
  t168 := Tryz.underlying430
  a168 := Tryz.isAgg430
  z168 := Tryz.sizeOf430
  v168 := Tryz.zeroValue430
  t171 := Tryz.underlying392
  a171 := Tryz.isAgg392
  z171 := Tryz.sizeOf392
  v171 := Tryz.zeroValue392
  t173 := Tryz.underlying394
  a173 := Tryz.isAgg394
  z173 := Tryz.sizeOf394
  v173 := Tryz.zeroValue394
  t175 := Tryz.underlying453
  a175 := Tryz.isAgg453
  z175 := Tryz.sizeOf453
  v175 := Tryz.zeroValue453
  t210 := Tryz.underlying457
  a210 := Tryz.isAgg457
  z210 := Tryz.sizeOf457
  v210 := Tryz.zeroValue457
  t212 := Tryz.underlying434
  a212 := Tryz.isAgg434
  z212 := Tryz.sizeOf434
  v212 := Tryz.zeroValue434
  t213 := Tryz.underlying435
  a213 := Tryz.isAgg435
  z213 := Tryz.sizeOf435
  t232 := Tryz.underlying473
  a232 := Tryz.isAgg473
  z232 := Tryz.sizeOf473
  v232 := Tryz.zeroValue473
  t233 := Tryz.underlying474
  a233 := Tryz.isAgg474
  z233 := Tryz.sizeOf474
  v233 := Tryz.zeroValue474
  g15 := by kernel_rfl
  g16 := by kernel_rfl
  g17 := by kernel_rfl
  g18 := by kernel_rfl
  g19 := by kernel_rfl }
open Go.RowKit in
theorem Tryz.strconv_Atoi (s : ByteArray) (n : Int) (hl : s.size ≤ 18) (h : Lib.atoi s.data.toList = some n) (w : World) :
    Calls Tryz.prog 287 #[.string s] w fun e w' => e = .returned (.tuple #[.int .i64 n, .nilIface]) ∧ ∃ t, w' = Lib.bytesWorld w 5 t := Any.strconv_Atoi Tryz.lays172 s n hl h w
def Tryz.laysM171_ren : Go.Shelf.Ren := ⟨fun | 171 => 109 | 243 => 222 | 246 => 289 | 283 => 374 | 284 => 375 | 285 => 376 | 286 => 377 | 129 => 310 | 317 => 427 | 318 => 428 | 319 => 429 | 320 => 430 | 337 => 463 | 338 => 464 | n => n, fun | 3 => 3 | 9 => 9 | 2 => 2 | 4 => 4 | 171 => 392 | 0 => 0 | 53 => 352 | 37 => 241 | 5 => 5 | 173 => 394 | 212 => 434 | 51 => 350 | 20 => 20 | 213 => 435 | 46 => 292 | 232 => 473 | 233 => 474 | n => n, fun | 17 => 1 | 18 => 6 | 19 => 7 | n => n⟩
theorem Tryz.laysM171 : Go.Proofs.LaysM.n171 Tryz.prog Tryz.laysM171_ren := {
  mixed := by kernel_rfl
  f129 := Tryz.func310.trans (congrArg some (by kernel_rfl))
  f171 := Tryz.func109.trans (congrArg some (by kernel_rfl))
  f243 := Tryz.func222.trans (congrArg some (by kernel_rfl))
  f246 := Tryz.func289.trans (congrArg some (by kernel_rfl))
  f283 := Tryz.func374.trans (congrArg some (by kernel_rfl))
  f284 := Tryz.func375.trans (congrArg some (by kernel_rfl))
  f285 := Tryz.func376.trans (congrArg some (by kernel_rfl))
  f286 := Tryz.func377.trans (congrArg some (by kernel_rfl))
  f317 := Tryz.func427.trans (congrArg some (by kernel_rfl))
  f318 := Tryz.func428.trans (congrArg some (by kernel_rfl))
  f319 := Tryz.func429.trans (congrArg some (by kernel_rfl))
  f320 := Tryz.func430.trans (congrArg some (by kernel_rfl))
  f337 := Tryz.func463.trans (congrArg some (by kernel_rfl))
  f338 := Tryz.func464.trans (congrArg some (by kernel_rfl))
  t0 := Tryz.underlying0
  a0 := Tryz.isAgg0
  z0 := Tryz.sizeOf0
  v0 := Tryz.zeroValue0
  t2 := Tryz.underlying2
  a2 := Tryz.isAgg2
  z2 := Tryz.sizeOf2
  v2 := Tryz.zeroValue2
  t3 := Tryz.underlying3
  a3 := Tryz.isAgg3
  z3 := Tryz.sizeOf3
  v3 := Tryz.zeroValue3
  t4 := Tryz.underlying4
  a4 := Tryz.isAgg4
  z4 := Tryz.sizeOf4
  v4 := Tryz.zeroValue4
  t5 := Tryz.underlying5
  a5 := Tryz.isAgg5
  z5 := Tryz.sizeOf5
  v5 := Tryz.zeroValue5
  t9 := Tryz.underlying9
  a9 := Tryz.isAgg9
  z9 := Tryz.sizeOf9
  v9 := Tryz.zeroValue9
  t20 := Tryz.underlying20
  a20 := Tryz.isAgg20
  z20 := Tryz.sizeOf20
  v20 := Tryz.zeroValue20
  t37 := Tryz.underlying241
  a37 := Tryz.isAgg241
  z37 := Tryz.sizeOf241
  v37 := Tryz.zeroValue241
  t46 := Tryz.underlying292
  a46 := Tryz.isAgg292
  z46 := Tryz.sizeOf292
  v46 := Tryz.zeroValue292
  t51 := Tryz.underlying350
  a51 := Tryz.isAgg350
  z51 := Tryz.sizeOf350
  v51 := Tryz.zeroValue350
  t53 := Tryz.underlying352
  a53 := Tryz.isAgg352
  z53 := Tryz.sizeOf352
  v53 := Tryz.zeroValue352
  t171 := Tryz.underlying392
  a171 := Tryz.isAgg392
  z171 := Tryz.sizeOf392
  v171 := Tryz.zeroValue392
  t173 := Tryz.underlying394
  a173 := Tryz.isAgg394
  z173 := Tryz.sizeOf394
  v173 := Tryz.zeroValue394
  t212 := Tryz.underlying434
  a212 := Tryz.isAgg434
  z212 := Tryz.sizeOf434
  v212 := Tryz.zeroValue434
  t213 := Tryz.underlying435
  a213 := Tryz.isAgg435
  z213 := Tryz.sizeOf435
  t232 := Tryz.underlying473
  a232 := Tryz.isAgg473
  z232 := Tryz.sizeOf473
  v232 := Tryz.zeroValue473
  t233 := Tryz.underlying474
  a233 := Tryz.isAgg474
  z233 := Tryz.sizeOf474
  v233 := Tryz.zeroValue474
  g17 := by kernel_rfl
  g18 := by kernel_rfl
  g19 := by kernel_rfl
  i0 := by kernel_rfl
  i2 := by kernel_rfl
  i3 := by kernel_rfl
  i4 := by kernel_rfl
  i5 := by kernel_rfl
  i9 := by kernel_rfl
  i20 := by kernel_rfl
  i37 := by kernel_rfl
  i46 := by kernel_rfl
  i51 := by kernel_rfl
  i53 := by kernel_rfl
  i171 := by kernel_rfl
  i173 := by kernel_rfl
  i212 := by kernel_rfl
  i232 := by kernel_rfl
  i233 := by kernel_rfl
  m17 := by kernel_rfl
  m18 := by kernel_rfl
  m19 := by kernel_rfl }
open Go.RowKit Go.Sort Go.Lib in
theorem Tryz.strconv_Itoa (n : Int) (h0 : -9223372036854775808 ≤ n) (h1 : n ≤ 9223372036854775807) (w : World) (htab : Lib.TabIs Tryz.prog w "internal/strconv.uint64pow10" .u64 Lib.pow10Tab) :
    Calls Tryz.prog 109 #[.int .i64 n] w fun e w' => e = .returned (.string ⟨(Lib.itoa n).toArray⟩) ∧ ∃ k os, w' = grow (w.drewN k) os := Any.strconv_Itoa Tryz.laysM171 n h0 h1 w htab
def Tryz.lays171_ren : Go.Shelf.Ren := ⟨fun | 171 => 109 | 243 => 222 | 246 => 289 | 283 => 374 | 284 => 375 | 285 => 376 | 286 => 377 | 129 => 310 | 317 => 427 | 318 => 428 | 319 => 429 | 320 => 430 | 337 => 463 | 338 => 464 | n => n, fun | 3 => 3 | 9 => 9 | 2 => 2 | 4 => 4 | 171 => 392 | 0 => 0 | 53 => 352 | 37 => 241 | 5 => 5 | 173 => 394 | 212 => 434 | 51 => 350 | 20 => 20 | 213 => 435 | 46 => 292 | 232 => 473 | 233 => 474 | n => n, fun | 17 => 1 | 18 => 6 | 19 => 7 | n => n⟩
theorem Tryz.lays171 : Go.Proofs.Lays.n171 Tryz.prog Tryz.lays171_ren := {
  mixed := by kernel_rfl
  f129 := Tryz.func310.trans (congrArg some (by kernel_rfl))
  f171 := Tryz.func109.trans (congrArg some (by kernel_rfl))
  f243 := Tryz.func222.trans (congrArg some (by kernel_rfl))
  f246 := Tryz.func289.trans (congrArg some (by kernel_rfl))
  f283 := Tryz.func374.trans (congrArg some (by kernel_rfl))
  f284 := Tryz.func375.trans (congrArg some (by kernel_rfl))
  f285 := Tryz.func376.trans (congrArg some (by kernel_rfl))
  f286 := Tryz.func377.trans (congrArg some (by kernel_rfl))
  f317 := Tryz.func427.trans (congrArg some (by kernel_rfl))
  f318 := Tryz.func428.trans (congrArg some (by kernel_rfl))
  f319 := Tryz.func429.trans (congrArg some (by kernel_rfl))
  f320 := Tryz.func430.trans (congrArg some (by kernel_rfl))
  f337 := Tryz.func463.trans (congrArg some (by kernel_rfl))
  f338 := Tryz.func464.trans (congrArg some (by kernel_rfl))
  t0 := Tryz.underlying0
  a0 := Tryz.isAgg0
  z0 := Tryz.sizeOf0
  v0 := Tryz.zeroValue0
  t2 := Tryz.underlying2
  a2 := Tryz.isAgg2
  z2 := Tryz.sizeOf2
  v2 := Tryz.zeroValue2
  t3 := Tryz.underlying3
  a3 := Tryz.isAgg3
  z3 := Tryz.sizeOf3
  v3 := Tryz.zeroValue3
  t4 := Tryz.underlying4
  a4 := Tryz.isAgg4
  z4 := Tryz.sizeOf4
  v4 := Tryz.zeroValue4
  t5 := Tryz.underlying5
  a5 := Tryz.isAgg5
  z5 := Tryz.sizeOf5
  v5 := Tryz.zeroValue5
  t9 := Tryz.underlying9
  a9 := Tryz.isAgg9
  z9 := Tryz.sizeOf9
  v9 := Tryz.zeroValue9
  t20 := Tryz.underlying20
  a20 := Tryz.isAgg20
  z20 := Tryz.sizeOf20
  v20 := Tryz.zeroValue20
  t37 := Tryz.underlying241
  a37 := Tryz.isAgg241
  z37 := Tryz.sizeOf241
  v37 := Tryz.zeroValue241
  t46 := Tryz.underlying292
  a46 := Tryz.isAgg292
  z46 := Tryz.sizeOf292
  v46 := Tryz.zeroValue292
  t51 := Tryz.underlying350
  a51 := Tryz.isAgg350
  z51 := Tryz.sizeOf350
  v51 := Tryz.zeroValue350
  t53 := Tryz.underlying352
  a53 := Tryz.isAgg352
  z53 := Tryz.sizeOf352
  v53 := Tryz.zeroValue352
  t171 := Tryz.underlying392
  a171 := Tryz.isAgg392
  z171 := Tryz.sizeOf392
  v171 := Tryz.zeroValue392
  t173 := Tryz.underlying394
  a173 := Tryz.isAgg394
  z173 := Tryz.sizeOf394
  v173 := Tryz.zeroValue394
  t212 := Tryz.underlying434
  a212 := Tryz.isAgg434
  z212 := Tryz.sizeOf434
  v212 := Tryz.zeroValue434
  t213 := Tryz.underlying435
  a213 := Tryz.isAgg435
  z213 := Tryz.sizeOf435
  t232 := Tryz.underlying473
  a232 := Tryz.isAgg473
  z232 := Tryz.sizeOf473
  v232 := Tryz.zeroValue473
  t233 := Tryz.underlying474
  a233 := Tryz.isAgg474
  z233 := Tryz.sizeOf474
  v233 := Tryz.zeroValue474
  g17 := by kernel_rfl
  g18 := by kernel_rfl
  g19 := by kernel_rfl }
open Go.RowKit Go.Sort Go.Lib in
theorem Tryz.strconv_Itoa_small (i : Nat) (hi : i < 100) (w : World) :
    Calls Tryz.prog 109 #[.int .i64 i] w fun e w' => e = .returned (.string ⟨(Lib.decDigits i).toArray⟩) ∧ w' = w := Any.strconv_Itoa_small Tryz.lays171 i hi w
def Tryz.laysC172_ren : Go.Shelf.Ren := ⟨fun | 172 => 287 | 244 => 372 | 245 => 373 | 247 => 422 | 279 => 423 | 280 => 424 | 281 => 425 | 282 => 426 | 287 => 460 | 316 => 461 | 171 => 109 | 205 => 462 | 321 => 472 | 322 => 473 | 243 => 222 | 246 => 289 | 283 => 374 | 284 => 375 | 285 => 376 | 286 => 377 | 129 => 310 | 317 => 427 | 318 => 428 | 319 => 429 | 320 => 430 | 337 => 463 | 338 => 464 | n => n, fun | 9 => 9 | 3 => 3 | 75 => 245 | 76 => 246 | 4 => 4 | 5 => 5 | 167 => 427 | 37 => 241 | 0 => 0 | 85 => 428 | 2 => 2 | 168 => 430 | 53 => 352 | 175 => 453 | 46 => 292 | 210 => 457 | 127 => 313 | 145 => 472 | 143 => 470 | 21 => 21 | 171 => 392 | 173 => 394 | 212 => 434 | 51 => 350 | 20 => 20 | 213 => 435 | 232 => 473 | 233 => 474 | 80 => 124 | n => n, fun | 15 => 2 | 16 => 3 | 17 => 1 | 18 => 6 | 19 => 7 | n => n⟩
theorem Tryz.laysC172 : Go.Proofs.LaysC.n172 Tryz.prog Tryz.laysC172_ren := {
  mixed := by kernel_rfl
  f129 := Tryz.func310.trans (congrArg some (by kernel_rfl))
  f171 := Tryz.func109.trans (congrArg some (by kernel_rfl))
  f172 := Tryz.func287.trans (congrArg some (by kernel_rfl))
  f205 := Tryz.func462.trans (congrArg some (by kernel_rfl))
  f243 := Tryz.func222.trans (congrArg some (by kernel_rfl))
  f244 := Tryz.func372.trans (congrArg some (by kernel_rfl))
  f245 := Tryz.func373.trans (congrArg some (by kernel_rfl))
  f246 := Tryz.func289.trans (congrArg some (by kernel_rfl))
  f247 := Tryz.func422.trans (congrArg some (by kernel_rfl))
  f279 := Tryz.func423.trans (congrArg some (by kernel_rfl))
  f280 := Tryz.func424.trans (congrArg some (by kernel_rfl))
  f281 := Tryz.func425.trans (congrArg some (by kernel_rfl))
  f282 := Tryz.func426.trans (congrArg some (by kernel_rfl))
  f283 := Tryz.func374.trans (congrArg some (by kernel_rfl))
  f284 := Tryz.func375.trans (congrArg some (by kernel_rfl))
  f285 := Tryz.func376.trans (congrArg some (by kernel_rfl))
  f286 := Tryz.func377.trans (congrArg some (by kernel_rfl))
  f287 := Tryz.func460.trans (congrArg some (by kernel_rfl))
  f316 := Tryz.func461.trans (congrArg some (by kernel_rfl))
  f317 := Tryz.func427.trans (congrArg some (by kernel_rfl))
  f318 := Tryz.func428.trans (congrArg some (by kernel_rfl))
  f319 := Tryz.func429.trans (congrArg some (by kernel_rfl))
  f320 := Tryz.func430.trans (congrArg some (by kernel_rfl))
  f321 := Tryz.func472.trans (congrArg some (by kernel_rfl))
  f322 := Tryz.func473.trans (congrArg some (by kernel_rfl))
  f337 := Tryz.func463.trans (congrArg some (by kernel_rfl))
  f338 := Tryz.func464.trans (congrArg some (by kernel_rfl))
  t0 := Tryz.underlying0
  a0 := Tryz.isAgg0
  z0 := Tryz.sizeOf0
  v0 := Tryz.zeroValue0
  t2 := Tryz.underlying2
  a2 := Tryz.isAgg2
  z2 := Tryz.sizeOf2
  v2 := Tryz.zeroValue2
  t3 := Tryz.underlying3
  a3 := Tryz.isAgg3
  z3 := Tryz.sizeOf3
  v3 := Tryz.zeroValue3
  t4 := Tryz.underlying4
  a4 := Tryz.isAgg4
  z4 := Tryz.sizeOf4
  v4 := Tryz.zeroValue4
  t5 := Tryz.underlying5
  a5 := Tryz.isAgg5
  z5 := Tryz.sizeOf5
  v5 := Tryz.zeroValue5
  t9 := Tryz.underlying9
  a9 := Tryz.isAgg9
  z9 := Tryz.sizeOf9
  v9 := Tryz.zeroValue9
  t20 := Tryz.underlying20
  a20 := Tryz.isAgg20
  z20 := Tryz.sizeOf20
  v20 := Tryz.zeroValue20
  t21 := Tryz.underlying21
  a21 := Tryz.isAgg21
  z21 := Tryz.sizeOf21
  v21 := Tryz.zeroValue21
  t37 := Tryz.underlying241
  a37 := Tryz.isAgg241
  z37 := Tryz.sizeOf241
  v37 := Tryz.zeroValue241
  t46 := Tryz.underlying292
  a46 := Tryz.isAgg292
  z46 := Tryz.sizeOf292
  v46 := Tryz.zeroValue292
  t51 := Tryz.underlying350
  a51 := Tryz.isAgg350
  z51 := Tryz.sizeOf350
  v51 := Tryz.zeroValue350
  t53 := Tryz.underlying352
  a53 := Tryz.isAgg352
  z53 := Tryz.sizeOf352
  v53 := Tryz.zeroValue352
  t75 := Tryz.underlying245
  a75 := Tryz.isAgg245
  z75 := Tryz.sizeOf245
  v75 := Tryz.zeroValue245
  t76 := Tryz.underlying246
  a76 := Tryz.isAgg246
  z76 := Tryz.sizeOf246
  v76 := Tryz.zeroValue246
  t85 := Tryz.underlying428
  a85 := Tryz.isAgg428
  z85 := Tryz.sizeOf428
  v85 := Tryz.zeroValue428
  t127 := Tryz.underlying313
  a127 := Tryz.isAgg313
  z127 := Tryz.sizeOf313
  v127 := Tryz.zeroValue313
  t143 := Tryz.underlying470
  a143 := Tryz.isAgg470
  z143 := Tryz.sizeOf470
  v143 := Tryz.zeroValue470
  t145 := Tryz.underlying472
  a145 := Tryz.isAgg472
  z145 := Tryz.sizeOf472
  v145 := Tryz.zeroValue472
  t167 := Tryz.underlying427
  a167 := Tryz.isAgg427
  z167 := Tryz.sizeOf427
  v167 := Tryz.zeroValue427
  t168 := Tryz.underlying430
  a168 := Tryz.isAgg430
  z168 := Tryz.sizeOf430
  v168 := Tryz.zeroValue430
  t171 := Tryz.underlying392
  a171 := Tryz.isAgg392
  z171 := Tryz.sizeOf392
  v171 := Tryz.zeroValue392
  t173 := Tryz.underlying394
  a173 := Tryz.isAgg394
  z173 := Tryz.sizeOf394
  v173 := Tryz.zeroValue394
  t175 := Tryz.underlying453
  a175 := Tryz.isAgg453
  z175 := Tryz.sizeOf453
  v175 := Tryz.zeroValue453
  t210 := Tryz.underlying457
  a210 := Tryz.isAgg457
  z210 := Tryz.sizeOf457
  v210 := Tryz.zeroValue457
  t212 := Tryz.underlying434
  a212 := Tryz.isAgg434
  z212 := Tryz.sizeOf434
  v212 := Tryz.zeroValue434
  t213 := Tryz.underlying435
  a213 := Tryz.isAgg435
  z213 := Tryz.sizeOf435
  t232 := Tryz.underlying473
  a232 := Tryz.isAgg473
  z232 := Tryz.sizeOf473
  v232 := Tryz.zeroValue473
  t233 := Tryz.underlying474
  a233 := Tryz.isAgg474
  z233 := Tryz.sizeOf474
  v233 := Tryz.zeroValue474
  g15 := by kernel_rfl
  g16 := by kernel_rfl
  g17 := by kernel_rfl
  g18 := by kernel_rfl
  g19 := by kernel_rfl
  t80 := Tryz.underlying124
  a80 := Tryz.isAgg124
  z80 := Tryz.sizeOf124
  v80 := Tryz.zeroValue124
  i0 := by kernel_rfl
  i2 := by kernel_rfl
  i3 := by kernel_rfl
  i4 := by kernel_rfl
  i5 := by kernel_rfl
  i9 := by kernel_rfl
  i20 := by kernel_rfl
  i21 := by kernel_rfl
  i37 := by kernel_rfl
  i46 := by kernel_rfl
  i51 := by kernel_rfl
  i53 := by kernel_rfl
  i75 := by kernel_rfl
  i76 := by kernel_rfl
  i80 := by kernel_rfl
  i85 := by kernel_rfl
  i127 := by kernel_rfl
  i143 := by kernel_rfl
  i145 := by kernel_rfl
  i167 := by kernel_rfl
  i168 := by kernel_rfl
  i171 := by kernel_rfl
  i173 := by kernel_rfl
  i175 := by kernel_rfl
  i210 := by kernel_rfl
  i212 := by kernel_rfl
  i232 := by kernel_rfl
  i233 := by kernel_rfl
  m15 := by kernel_rfl
  m16 := by kernel_rfl
  m17 := by kernel_rfl
  m18 := by kernel_rfl
  m19 := by kernel_rfl
  c0 := by kernel_rfl
  c2 := by kernel_rfl
  c3 := by kernel_rfl
  c4 := by kernel_rfl
  c5 := by kernel_rfl
  c9 := by kernel_rfl
  c20 := by kernel_rfl
  c21 := by kernel_rfl
  c37 := by kernel_rfl
  c46 := by kernel_rfl
  c51 := by kernel_rfl
  c53 := by kernel_rfl
  c75 := by kernel_rfl
  c76 := by kernel_rfl
  c80 := by kernel_rfl
  c85 := by kernel_rfl
  c127 := by kernel_rfl
  c143 := by kernel_rfl
  c145 := by kernel_rfl
  c167 := by kernel_rfl
  c168 := by kernel_rfl
  c171 := by kernel_rfl
  c173 := by kernel_rfl
  c175 := by kernel_rfl
  c210 := by kernel_rfl
  c212 := by kernel_rfl
  c213 := by kernel_rfl
  c232 := by kernel_rfl
  c233 := by kernel_rfl }
open Go.RowKit in
theorem Tryz.strconv_Atoi_err_var (s : ByteArray) (hl : s.size ≤ 18) (h : Lib.atoi s.data.toList = none) (tp : TypeId) (p : Value) (w : World) (hvar : w.var? Tryz.prog "strconv.ErrSyntax" = some #[.iface tp p]) :
    Calls Tryz.prog 287 #[.string s] w fun e w' => ∃ N, e = .returned (.tuple #[.int .i64 0, .iface 430 (.pointer (some ⟨N, 0, none⟩))]) ∧ w.heap.size ≤ N ∧ w'.heap[N]? = some (.cells #[.string ⟨#[65, 116, 111, 105]⟩, .string s, .iface tp p] 457 (0, 0)) ∧ Below w.heap.size w w' := Any.strconv_Atoi_err_var Tryz.laysC172 s hl h tp p w hvar
open Go.RowKit in
theorem Tryz.strconv_Atoi_ok (s : ByteArray) (hmax : s.size ≤ 9223372036854775806) (v : Int) (h : Lib.atoiAll s.data.toList = .ok v) (w : World) :
    Calls Tryz.prog 287 #[.string s] w fun e w' => e = .returned (.tuple #[.int .i64 v, .nilIface]) ∧ (w' = w ∨ ∃ t, w' = Lib.bytesWorld w 5 t) := Any.strconv_Atoi_ok Tryz.laysC172 s hmax v h w
open Go.RowKit in
theorem Tryz.strconv_Atoi_range_var (s : ByteArray) (hlim : s.size ≤ 281474976710656) (h : Lib.atoiAll s.data.toList = .range) (tp : TypeId) (p : Value) (w : World) (hvar : w.var? Tryz.prog "strconv.ErrRange" = some #[.iface tp p]) :
    Calls Tryz.prog 287 #[.string s] w fun e w' => ∃ N, e = .returned (.tuple #[.int .i64 (Lib.atoiSat s.data.toList), .iface 430 (.pointer (some ⟨N, 0, none⟩))]) ∧ w.heap.size ≤ N ∧ w'.heap[N]? = some (.cells #[.string ⟨#[65, 116, 111, 105]⟩, .string s, .iface tp p] 457 (0, 0)) ∧ Below w.heap.size w w' := Any.strconv_Atoi_range_var Tryz.laysC172 s hlim h tp p w hvar
def Tryz.lays145_ren : Go.Shelf.Ren := ⟨fun | 145 => 265 | 220 => 340 | 219 => 409 | 217 => 297 | 225 => 452 | 224 => 453 | 267 => 454 | 266 => 382 | 314 => 470 | n => n, fun | 9 => 9 | 4 => 4 | 59 => 314 | 3 => 3 | 5 => 5 | 46 => 292 | 146 => 467 | 51 => 350 | n => n, fun | 1 => 0 | n => n⟩
theorem Tryz.lays145 : Go.Proofs.Lays.n145 Tryz.prog Tryz.lays145_ren := {
  mixed := by kernel_rfl
  f145 := Tryz.func265.trans (congrArg some (by kernel_rfl))
  f217 := Tryz.func297.trans (congrArg some (by kernel_rfl))
  f219 := Tryz.func409.trans (congrArg some (by kernel_rfl))
  f220 := Tryz.func340.trans (congrArg some (by kernel_rfl))
  f224 := Tryz.func453.trans (congrArg some (by kernel_rfl))
  f225 := Tryz.func452.trans (congrArg some (by kernel_rfl))
  f266 := Tryz.func382.trans (congrArg some (by kernel_rfl))
  f267 := Tryz.func454.trans (congrArg some (by kernel_rfl))
  f314 := Tryz.func470.trans (congrArg some (by kernel_rfl))
  t3 := Tryz.underlying3
  a3 := Tryz.isAgg3
  z3 := Tryz.sizeOf3
  v3 := Tryz.zeroValue3
  t4 := Tryz.underlying4
  a4 := Tryz.isAgg4
  z4 := Tryz.sizeOf4
  v4 := Tryz.zeroValue4
  t5 := Tryz.underlying5
  a5 := Tryz.isAgg5
  z5 := Tryz.sizeOf5
  v5 := Tryz.zeroValue5
  t9 := Tryz.underlying9
  a9 := Tryz.isAgg9
  z9 := Tryz.sizeOf9
  v9 := Tryz.zeroValue9
  t46 := Tryz.underlying292
  a46 := Tryz.isAgg292
  z46 := Tryz.sizeOf292
  v46 := Tryz.zeroValue292
  t51 := Tryz.underlying350
  a51 := Tryz.isAgg350
  z51 := Tryz.sizeOf350
  v51 := Tryz.zeroValue350
  t59 := Tryz.underlying314
  a59 := Tryz.isAgg314
  z59 := Tryz.sizeOf314
  v59 := Tryz.zeroValue314
  t146 := Tryz.underlying467
  a146 := Tryz.isAgg467
  z146 := Tryz.sizeOf467
  v146 := Tryz.zeroValue467
  g1 := by kernel_rfl }
open Go.RowKit Go.Lib in
theorem Tryz.strings_Cut (s sep : ByteArray) (m : Int) (w : World) (hs : s.size < 4294967281) (hm : w.cell? ⟨0, 0, none⟩ = some (.int .i64 m)) :
    Calls Tryz.prog 265 #[.string s, .string sep] w fun e w' => e = .returned (.tuple #[.string ⟨(Lib.cut s.data.toList sep.data.toList).1.toArray⟩, .string ⟨(Lib.cut s.data.toList sep.data.toList).2.1.toArray⟩, .bool (Lib.cut s.data.toList sep.data.toList).2.2]) ∧ ∃ n, w' = w.drewN n := Any.strings_Cut Tryz.lays145 s sep m w hs hm
def Tryz.laysM145_ren : Go.Shelf.Ren := ⟨fun | 145 => 265 | 220 => 340 | 219 => 409 | 217 => 297 | 225 => 452 | 224 => 453 | 267 => 454 | 266 => 382 | 314 => 470 | n => n, fun | 9 => 9 | 4 => 4 | 59 => 314 | 3 => 3 | 5 => 5 | 46 => 292 | 146 => 467 | 51 => 350 | n => n, fun | 1 => 0 | n => n⟩
theorem Tryz.laysM145 : Go.Proofs.LaysM.n145 Tryz.prog Tryz.laysM145_ren := {
  mixed := by kernel_rfl
  f145 := Tryz.func265.trans (congrArg some (by kernel_rfl))
  f217 := Tryz.func297.trans (congrArg some (by kernel_rfl))
  f219 := Tryz.func409.trans (congrArg some (by kernel_rfl))
  f220 := Tryz.func340.trans (congrArg some (by kernel_rfl))
  f224 := Tryz.func453.trans (congrArg some (by kernel_rfl))
  f225 := Tryz.func452.trans (congrArg some (by kernel_rfl))
  f266 := Tryz.func382.trans (congrArg some (by kernel_rfl))
  f267 := Tryz.func454.trans (congrArg some (by kernel_rfl))
  f314 := Tryz.func470.trans (congrArg some (by kernel_rfl))
  t3 := Tryz.underlying3
  a3 := Tryz.isAgg3
  z3 := Tryz.sizeOf3
  v3 := Tryz.zeroValue3
  t4 := Tryz.underlying4
  a4 := Tryz.isAgg4
  z4 := Tryz.sizeOf4
  v4 := Tryz.zeroValue4
  t5 := Tryz.underlying5
  a5 := Tryz.isAgg5
  z5 := Tryz.sizeOf5
  v5 := Tryz.zeroValue5
  t9 := Tryz.underlying9
  a9 := Tryz.isAgg9
  z9 := Tryz.sizeOf9
  v9 := Tryz.zeroValue9
  t46 := Tryz.underlying292
  a46 := Tryz.isAgg292
  z46 := Tryz.sizeOf292
  v46 := Tryz.zeroValue292
  t51 := Tryz.underlying350
  a51 := Tryz.isAgg350
  z51 := Tryz.sizeOf350
  v51 := Tryz.zeroValue350
  t59 := Tryz.underlying314
  a59 := Tryz.isAgg314
  z59 := Tryz.sizeOf314
  v59 := Tryz.zeroValue314
  t146 := Tryz.underlying467
  a146 := Tryz.isAgg467
  z146 := Tryz.sizeOf467
  v146 := Tryz.zeroValue467
  g1 := by kernel_rfl
  i3 := by kernel_rfl
  i4 := by kernel_rfl
  i5 := by kernel_rfl
  i9 := by kernel_rfl
  i46 := by kernel_rfl
  i51 := by kernel_rfl
  i59 := by kernel_rfl
  i146 := by kernel_rfl
  m1 := by kernel_rfl
  s1_3 := fun w h => Go.Proofs.cell_of_shapedOpen_int (zero := #[.int .i64 0]) (t := 3) h (of_decide_eq_true (by kernel_rfl)) (by kernel_rfl) rfl (by kernel_rfl) (by kernel_rfl) Tryz.underlying3 }
def Tryz.lays189_ren : Go.Shelf.Ren := ⟨fun | 189 => 313 | 125 => 236 | 257 => 390 | 128 => 309 | 129 => 310 | 294 => 436 | 295 => 437 | 296 => 438 | 297 => 439 | 298 => 440 | 299 => 441 | 216 => 442 | 300 => 443 | 301 => 444 | 328 => 466 | 329 => 385 | 330 => 386 | 331 => 467 | 332 => 468 | 215 => 232 | 343 => 474 | n => n, fun | 28 => 22 | 3 => 3 | 46 => 292 | 0 => 0 | 51 => 350 | 53 => 352 | 4 => 4 | 183 => 344 | 182 => 343 | 131 => 195 | 5 => 5 | 9 => 9 | 218 => 400 | 222 => 404 | 228 => 437 | 229 => 438 | n => n, fun | n => n⟩
theorem Tryz.lays189 : Go.Proofs.Lays.n189 Tryz.prog Tryz.lays189_ren := {
  mixed := by kernel_rfl
  f125 := Tryz.func236.trans (congrArg some (by kernel_rfl))
  f128 := Tryz.func309.trans (congrArg some (by kernel_rfl))
  f129 := Tryz.func310.trans (congrArg some (by kernel_rfl))
  f189 := Tryz.func313.trans (congrArg some (by kernel_rfl))
  f215 := Tryz.func232.trans (congrArg some (by kernel_rfl))
  f216 := Tryz.func442.trans (congrArg some (by kernel_rfl))
  f257 := Tryz.func390.trans (congrArg some (by kernel_rfl))
  f294 := Tryz.func436.trans (congrArg some (by kernel_rfl))
  f295 := Tryz.func437.trans (congrArg some (by kernel_rfl))
  f296 := Tryz.func438.trans (congrArg some (by kernel_rfl))
  f297 := Tryz.func439.trans (congrArg some (by kernel_rfl))
  f298 := Tryz.func440.trans (congrArg some (by kernel_rfl))
  f299 := Tryz.func441.trans (congrArg some (by kernel_rfl))
  f300 := Tryz.func443.trans (congrArg some (by kernel_rfl))
  f301 := Tryz.func444.trans (congrArg some (by kernel_rfl))
  f328 := Tryz.func466.trans (congrArg some (by kernel_rfl))
  f329 := Tryz.func385.trans (congrArg some (by kernel_rfl))
  f330 := Tryz.func386.trans (congrArg some (by kernel_rfl))
  f331 := Tryz.func467.trans (congrArg some (by kernel_rfl))
  f332 := Tryz.func468.trans (congrArg some (by kernel_rfl))
  f343 := Tryz.func474.trans (congrArg some (by kernel_rfl))
  t0 := Tryz.underlying0
  a0 := Tryz.isAgg0
  z0 := Tryz.sizeOf0
  v0 := Tryz.zeroValue0
  t3 := Tryz.underlying3
  a3 := Tryz.isAgg3
  z3 := Tryz.sizeOf3
  v3 := Tryz.zeroValue3
  t4 := Tryz.underlying4
  a4 := Tryz.isAgg4
  z4 := Tryz.sizeOf4
  v4 := Tryz.zeroValue4
  t5 := Tryz.underlying5
  a5 := Tryz.isAgg5
  z5 := Tryz.sizeOf5
  v5 := Tryz.zeroValue5
  t9 := Tryz.underlying9
  a9 := Tryz.isAgg9
  z9 := Tryz.sizeOf9
  v9 := Tryz.zeroValue9
  t28 := Tryz.underlying22
  a28 := Tryz.isAgg22
  z28 := Tryz.sizeOf22
  v28 := Tryz.zeroValue22
  t46 := Tryz.underlying292
  a46 := Tryz.isAgg292
  z46 := Tryz.sizeOf292
  v46 := Tryz.zeroValue292
  t51 := Tryz.underlying350
  a51 := Tryz.isAgg350
  z51 := Tryz.sizeOf350
  v51 := Tryz.zeroValue350
  t53 := Tryz.underlying352
  a53 := Tryz.isAgg352
  z53 := Tryz.sizeOf352
  v53 := Tryz.zeroValue352
  t131 := Tryz.underlying195
  a131 := Tryz.isAgg195
  z131 := Tryz.sizeOf195
  v131 := Tryz.zeroValue195
  t182 := Tryz.underlying343
  a182 := Tryz.isAgg343
  z182 := Tryz.sizeOf343
  v182 := Tryz.zeroValue343
  t183 := Tryz.underlying344
  a183 := Tryz.isAgg344
  z183 := Tryz.sizeOf344
  v183 := Tryz.zeroValue344
  t218 := Tryz.underlying400
  a218 := Tryz.isAgg400
  z218 := Tryz.sizeOf400
  v218 := Tryz.zeroValue400
  t222 := Tryz.underlying404
  a222 := Tryz.isAgg404
  z222 := Tryz.sizeOf404
  v222 := Tryz.zeroValue404
  t228 := Tryz.underlying437
  a228 := Tryz.isAgg437
  z228 := Tryz.sizeOf437
  v228 := Tryz.zeroValue437
  t229 := Tryz.underlying438
  a229 := Tryz.isAgg438
  z229 := Tryz.sizeOf438
  v229 := Tryz.zeroValue438 }
open Go.Sort Go.RowKit in
theorem Tryz.slices_Sort_int (blk off cap : Nat) (zs : List Int) (w : World) (hH : Holds (Value.int .i64) w blk off zs.toArray) (hblk : blk < w.heap.size) (hsz : zs.length < 4611686018427387904) :
    Calls Tryz.prog 313 #[.slice (some ⟨blk, off, none⟩) zs.length cap] w fun e w' =>
      e = .returned (.tuple #[]) ∧ ∃ n os, w' = grow (putRow (Value.int .i64) (Sort.ahead w n) blk off (zs.mergeSort fun x y => decide (x ≤ y)).toArray) os := Any.slices_Sort_int Tryz.lays189 blk off cap zs w hH hblk hsz
def Tryz.lays190_ren : Go.Shelf.Ren := ⟨fun | 190 => 253 | 125 => 236 | 258 => 324 | 128 => 309 | 129 => 310 | 302 => 394 | 303 => 395 | 304 => 396 | 305 => 397 | 306 => 398 | 307 => 399 | 308 => 400 | 309 => 401 | 310 => 402 | 333 => 446 | 329 => 385 | 330 => 386 | 334 => 447 | 335 => 448 | 336 => 449 | 344 => 469 | n => n, fun | 31 => 97 | 9 => 9 | 3 => 3 | 46 => 292 | 0 => 0 | 51 => 350 | 53 => 352 | 4 => 4 | 183 => 344 | 182 => 343 | 131 => 195 | 5 => 5 | 218 => 400 | 222 => 404 | 228 => 437 | 229 => 438 | n => n, fun | n => n⟩
theorem Tryz.lays190 : Go.Proofs.Lays.n190 Tryz.prog Tryz.lays190_ren := {
  mixed := by kernel_rfl
  f125 := Tryz.func236.trans (congrArg some (by kernel_rfl))
  f128 := Tryz.func309.trans (congrArg some (by kernel_rfl))
  f129 := Tryz.func310.trans (congrArg some (by kernel_rfl))
  f190 := Tryz.func253.trans (congrArg some (by kernel_rfl))
  f258 := Tryz.func324.trans (congrArg some (by kernel_rfl))
  f302 := Tryz.func394.trans (congrArg some (by kernel_rfl))
  f303 := Tryz.func395.trans (congrArg some (by kernel_rfl))
  f304 := Tryz.func396.trans (congrArg some (by kernel_rfl))
  f305 := Tryz.func397.trans (congrArg some (by kernel_rfl))
  f306 := Tryz.func398.trans (congrArg some (by kernel_rfl))
  f307 := Tryz.func399.trans (congrArg some (by kernel_rfl))
  f308 := Tryz.func400.trans (congrArg some (by kernel_rfl))
  f309 := Tryz.func401.trans (congrArg some (by kernel_rfl))
  f310 := Tryz.func402.trans (congrArg some (by kernel_rfl))
  f329 := Tryz.func385.trans (congrArg some (by kernel_rfl))
  f330 := Tryz.func386.trans (congrArg some (by kernel_rfl))
  f333 := Tryz.func446.trans (congrArg some (by kernel_rfl))
  f334 := Tryz.func447.trans (congrArg some (by kernel_rfl))
  f335 := Tryz.func448.trans (congrArg some (by kernel_rfl))
  f336 := Tryz.func449.trans (congrArg some (by kernel_rfl))
  f344 := Tryz.func469.trans (congrArg some (by kernel_rfl))
  t0 := Tryz.underlying0
  a0 := Tryz.isAgg0
  z0 := Tryz.sizeOf0
  v0 := Tryz.zeroValue0
  t3 := Tryz.underlying3
  a3 := Tryz.isAgg3
  z3 := Tryz.sizeOf3
  v3 := Tryz.zeroValue3
  t4 := Tryz.underlying4
  a4 := Tryz.isAgg4
  z4 := Tryz.sizeOf4
  v4 := Tryz.zeroValue4
  t5 := Tryz.underlying5
  a5 := Tryz.isAgg5
  z5 := Tryz.sizeOf5
  v5 := Tryz.zeroValue5
  t9 := Tryz.underlying9
  a9 := Tryz.isAgg9
  z9 := Tryz.sizeOf9
  v9 := Tryz.zeroValue9
  t31 := Tryz.underlying97
  a31 := Tryz.isAgg97
  z31 := Tryz.sizeOf97
  v31 := Tryz.zeroValue97
  t46 := Tryz.underlying292
  a46 := Tryz.isAgg292
  z46 := Tryz.sizeOf292
  v46 := Tryz.zeroValue292
  t51 := Tryz.underlying350
  a51 := Tryz.isAgg350
  z51 := Tryz.sizeOf350
  v51 := Tryz.zeroValue350
  t53 := Tryz.underlying352
  a53 := Tryz.isAgg352
  z53 := Tryz.sizeOf352
  v53 := Tryz.zeroValue352
  t131 := Tryz.underlying195
  a131 := Tryz.isAgg195
  z131 := Tryz.sizeOf195
  v131 := Tryz.zeroValue195
  t182 := Tryz.underlying343
  a182 := Tryz.isAgg343
  z182 := Tryz.sizeOf343
  v182 := Tryz.zeroValue343
  t183 := Tryz.underlying344
  a183 := Tryz.isAgg344
  z183 := Tryz.sizeOf344
  v183 := Tryz.zeroValue344
  t218 := Tryz.underlying400
  a218 := Tryz.isAgg400
  z218 := Tryz.sizeOf400
  v218 := Tryz.zeroValue400
  t222 := Tryz.underlying404
  a222 := Tryz.isAgg404
  z222 := Tryz.sizeOf404
  v222 := Tryz.zeroValue404
  t228 := Tryz.underlying437
  a228 := Tryz.isAgg437
  z228 := Tryz.sizeOf437
  v228 := Tryz.zeroValue437
  t229 := Tryz.underlying438
  a229 := Tryz.isAgg438
  z229 := Tryz.sizeOf438
  v229 := Tryz.zeroValue438 }
open Go.Sort Go.RowKit in
theorem Tryz.slices_Sort_string (blk off cap : Nat) (ss : List (List UInt8)) (w : World) (hH : Holds encStr w blk off ss.toArray) (hblk : blk < w.heap.size) (hsz : ss.length < 4611686018427387904) :
    Calls Tryz.prog 253 #[.slice (some ⟨blk, off, none⟩) ss.length cap] w fun e w' =>
      e = .returned (.tuple #[]) ∧ ∃ n os, w' = grow (putRow encStr (Sort.ahead w n) blk off (ss.mergeSort fun x y => decide (x ≤ y)).toArray) os := Any.slices_Sort_string Tryz.lays190 blk off cap ss w hH hblk hsz
def Tryz.lays101_ren : Go.Shelf.Ren := ⟨fun | 101 => 345 | 208 => 412 | 206 => 455 | n => n, fun | 9 => 9 | 4 => 4 | 3 => 3 | n => n, fun | n => n⟩
theorem Tryz.lays101 : Go.Proofs.Lays.n101 Tryz.prog Tryz.lays101_ren := {
  mixed := by kernel_rfl
  f101 := Tryz.func345.trans (congrArg some (by kernel_rfl))
  f206 := Tryz.func455.trans (congrArg some (by kernel_rfl))
  f208 := Tryz.func412.trans (congrArg some (by kernel_rfl))
  t3 := Tryz.underlying3
  a3 := Tryz.isAgg3
  z3 := Tryz.sizeOf3
  v3 := Tryz.zeroValue3
  t4 := Tryz.underlying4
  a4 := Tryz.isAgg4
  z4 := Tryz.sizeOf4
  v4 := Tryz.zeroValue4
  t9 := Tryz.underlying9
  a9 := Tryz.isAgg9
  z9 := Tryz.sizeOf9
  v9 := Tryz.zeroValue9 }
open Go.RowKit Go.Lib in
theorem Tryz.strings_TrimPrefix (s p : ByteArray) (w : World) :
    Calls Tryz.prog 345 #[.string s, .string p] w fun e w' => e = .returned (.string ⟨(Lib.trimPrefix s.data.toList p.data.toList).toArray⟩) ∧ w' = w := Any.strings_TrimPrefix Tryz.lays101 s p w
def Tryz.lays146_ren : Go.Shelf.Ren := ⟨fun | 146 => 185 | 221 => 267 | 268 => 342 | 138 => 343 | 143 => 344 | 195 => 410 | 197 => 379 | 218 => 411 | 219 => 409 | 260 => 431 | 217 => 297 | 225 => 452 | 224 => 453 | 267 => 454 | 266 => 382 | 314 => 470 | n => n, fun | 9 => 9 | 31 => 97 | 3 => 3 | 4 => 4 | 0 => 0 | 105 => 397 | 21 => 21 | 5 => 5 | 46 => 292 | 119 => 459 | 139 => 462 | 138 => 461 | 146 => 467 | 51 => 350 | n => n, fun | 1 => 0 | 3 => 4 | 4 => 5 | n => n⟩
theorem Tryz.lays146 : Go.Proofs.Lays.n146 Tryz.prog Tryz.lays146_ren := {
  mixed := by kernel_rfl
  f138 := Tryz.func343.trans (congrArg some (by kernel_rfl))
  f143 := Tryz.func344.trans (congrArg some (by kernel_rfl))
  f146 := Tryz.func185.trans (congrArg some (by kernel_rfl))
  f195 := Tryz.func410.trans (congrArg some (by kernel_rfl))
  f197 := Tryz.func379.trans (congrArg some (by kernel_rfl))
  f217 := Tryz.func297.trans (congrArg some (by kernel_rfl))
  f218 := Tryz.func411.trans (congrArg some (by kernel_rfl))
  f219 := Tryz.func409.trans (congrArg some (by kernel_rfl))
  f221 := Tryz.func267.trans (congrArg some (by kernel_rfl))
  f224 := Tryz.func453.trans (congrArg some (by kernel_rfl))
  f225 := Tryz.func452.trans (congrArg some (by kernel_rfl))
  f260 := Tryz.func431.trans (congrArg some (by kernel_rfl))
  f266 := Tryz.func382.trans (congrArg some (by kernel_rfl))
  f267 := Tryz.func454.trans (congrArg some (by kernel_rfl))
  f268 := Tryz.func342.trans (congrArg some (by kernel_rfl))
  f314 := Tryz.func470.trans (congrArg some (by kernel_rfl))
  t0 := Tryz.underlying0
  a0 := Tryz.isAgg0
  z0 := Tryz.sizeOf0
  v0 := Tryz.zeroValue0
  t3 := Tryz.underlying3
  a3 := Tryz.isAgg3
  z3 := Tryz.sizeOf3
  v3 := Tryz.zeroValue3
  t4 := Tryz.underlying4
  a4 := Tryz.isAgg4
  z4 := Tryz.sizeOf4
  v4 := Tryz.zeroValue4
  t5 := Tryz.underlying5
  a5 := Tryz.isAgg5
  z5 := Tryz.sizeOf5
  v5 := Tryz.zeroValue5
  t9 := Tryz.underlying9
  a9 := Tryz.isAgg9
  z9 := Tryz.sizeOf9
  v9 := Tryz.zeroValue9
  t21 := Tryz.underlying21
  a21 := Tryz.isAgg21
  z21 := Tryz.sizeOf21
  v21 := Tryz.zeroValue21
  t31 := Tryz.underlying97
  a31 := Tryz.isAgg97
  z31 := Tryz.sizeOf97
  v31 := Tryz.zeroValue97
  t46 := Tryz.underlying292
  a46 := Tryz.isAgg292
  z46 := Tryz.sizeOf292
  v46 := Tryz.zeroValue292
  t51 := Tryz.underlying350
  a51 := Tryz.isAgg350
  z51 := Tryz.sizeOf350
  v51 := Tryz.zeroValue350
  t105 := Tryz.underlying397
  a105 := Tryz.isAgg397
  z105 := Tryz.sizeOf397
  v105 := Tryz.zeroValue397
  t119 := Tryz.underlying459
  a119 := Tryz.isAgg459
  z119 := Tryz.sizeOf459
  t138 := Tryz.underlying461
  a138 := Tryz.isAgg461
  z138 := Tryz.sizeOf461
  v138 := Tryz.zeroValue461
  t139 := Tryz.underlying462
  a139 := Tryz.isAgg462
  z139 := Tryz.sizeOf462
  v139 := Tryz.zeroValue462
  t146 := Tryz.underlying467
  a146 := Tryz.isAgg467
  z146 := Tryz.sizeOf467
  v146 := Tryz.zeroValue467
  g1 := by kernel_rfl
  g3 := by kernel_rfl
  g4 := by kernel_rfl }
open Go.RowKit Go.Lib in
theorem Tryz.strings_Split (s sep : ByteArray) (m : Int) (w : World) (hs : s.size < 4294967281) (hm : w.cell? ⟨0, 0, none⟩ = some (.int .i64 m)) (h1 : 1 ≤ sep.size) :
    Calls Tryz.prog 185 #[.string s, .string sep] w fun e w' =>
      e = .returned (.slice (some ⟨w.heap.size, 0, none⟩) (Lib.countB s sep + 1) (Lib.countB s sep + 1)) ∧ w' = w.alloc (.cells ((Lib.splitB sep 0 (Lib.countB s sep) s).map Value.string).toArray 9) := Any.strings_Split Tryz.lays146 (by kernel_rfl) s sep m w hs hm h1
def Tryz.lays108_ren : Go.Shelf.Ren := ⟨fun | 108 => 325 | n => n, fun | 28 => 22 | 3 => 3 | 0 => 0 | 4 => 4 | n => n, fun | n => n⟩
theorem Tryz.lays108 : Go.Proofs.Lays.n108 Tryz.prog Tryz.lays108_ren := {
  mixed := by kernel_rfl
  f108 := Tryz.func325.trans (congrArg some (by kernel_rfl))
  t0 := Tryz.underlying0
  a0 := Tryz.isAgg0
  z0 := Tryz.sizeOf0
  v0 := Tryz.zeroValue0
  t3 := Tryz.underlying3
  a3 := Tryz.isAgg3
  z3 := Tryz.sizeOf3
  v3 := Tryz.zeroValue3
  t4 := Tryz.underlying4
  a4 := Tryz.isAgg4
  z4 := Tryz.sizeOf4
  v4 := Tryz.zeroValue4
  t28 := Tryz.underlying22
  a28 := Tryz.isAgg22
  z28 := Tryz.sizeOf22
  v28 := Tryz.zeroValue22 }
open Go.Lib in
theorem Tryz.slices_Index_int (b off n c : Nat) (zs : List Int) (x : Int) (w : World) (hz : n ≤ zs.length) (hbig : n ≤ 9223372036854775807) (hc : ∀ j, j < zs.length → w.cell? ⟨b, off + j, none⟩ = some (.int .i64 (zs.getD j 0))) :
    Calls Tryz.prog 325 #[.slice (some ⟨b, off, none⟩) n c, .int .i64 x] w fun e w' => e = .returned (.int .i64 (Lib.idxOf (zs.take n) x)) ∧ w' = w := Any.slices_Index_int Tryz.lays108 b off n c zs x w hz hbig hc
def Tryz.lays107_ren : Go.Shelf.Ren := ⟨fun | 107 => 258 | 108 => 325 | n => n, fun | 28 => 22 | 3 => 3 | 4 => 4 | 0 => 0 | n => n, fun | n => n⟩
theorem Tryz.lays107 : Go.Proofs.Lays.n107 Tryz.prog Tryz.lays107_ren := {
  mixed := by kernel_rfl
  f107 := Tryz.func258.trans (congrArg some (by kernel_rfl))
  f108 := Tryz.func325.trans (congrArg some (by kernel_rfl))
  t0 := Tryz.underlying0
  a0 := Tryz.isAgg0
  z0 := Tryz.sizeOf0
  v0 := Tryz.zeroValue0
  t3 := Tryz.underlying3
  a3 := Tryz.isAgg3
  z3 := Tryz.sizeOf3
  v3 := Tryz.zeroValue3
  t4 := Tryz.underlying4
  a4 := Tryz.isAgg4
  z4 := Tryz.sizeOf4
  v4 := Tryz.zeroValue4
  t28 := Tryz.underlying22
  a28 := Tryz.isAgg22
  z28 := Tryz.sizeOf22
  v28 := Tryz.zeroValue22 }
open Go.Lib in
theorem Tryz.slices_Contains_int (b off n c : Nat) (zs : List Int) (x : Int) (w : World) (hz : n ≤ zs.length) (hbig : n ≤ 9223372036854775807) (hc : ∀ j, j < zs.length → w.cell? ⟨b, off + j, none⟩ = some (.int .i64 (zs.getD j 0))) :
    Calls Tryz.prog 258 #[.slice (some ⟨b, off, none⟩) n c, .int .i64 x] w fun e w' => e = .returned (.bool ((zs.take n).contains x)) ∧ w' = w := Any.slices_Contains_int Tryz.lays107 b off n c zs x w hz hbig hc
open Go.Lib in
theorem Tryz.slices_Contains_int_empty (a : Option Addr) (c : Nat) (x : Int) (w : World) :
    Calls Tryz.prog 258 #[.slice a 0 c, .int .i64 x] w fun e w' => e = .returned (.bool false) ∧ w' = w := Any.slices_Contains_int_empty Tryz.lays107 a c x w
def Tryz.lays110_ren : Go.Shelf.Ren := ⟨fun | 110 => 186 | 109 => 187 | n => n, fun | 31 => 97 | 9 => 9 | 4 => 4 | 3 => 3 | 0 => 0 | n => n, fun | n => n⟩
theorem Tryz.lays110 : Go.Proofs.Lays.n110 Tryz.prog Tryz.lays110_ren := {
  mixed := by kernel_rfl
  f109 := Tryz.func187.trans (congrArg some (by kernel_rfl))
  f110 := Tryz.func186.trans (congrArg some (by kernel_rfl))
  t0 := Tryz.underlying0
  a0 := Tryz.isAgg0
  z0 := Tryz.sizeOf0
  v0 := Tryz.zeroValue0
  t3 := Tryz.underlying3
  a3 := Tryz.isAgg3
  z3 := Tryz.sizeOf3
  v3 := Tryz.zeroValue3
  t4 := Tryz.underlying4
  a4 := Tryz.isAgg4
  z4 := Tryz.sizeOf4
  v4 := Tryz.zeroValue4
  t9 := Tryz.underlying9
  a9 := Tryz.isAgg9
  z9 := Tryz.sizeOf9
  v9 := Tryz.zeroValue9
  t31 := Tryz.underlying97
  a31 := Tryz.isAgg97
  z31 := Tryz.sizeOf97
  v31 := Tryz.zeroValue97 }
open Go.Lib in
theorem Tryz.slices_Contains_string (b off n c : Nat) (zs : List ByteArray) (x : ByteArray) (w : World) (hz : n ≤ zs.length) (hbig : n ≤ 9223372036854775807) (hc : ∀ j, j < zs.length → w.cell? ⟨b, off + j, none⟩ = some (.string (zs.getD j ByteArray.empty))) :
    Calls Tryz.prog 186 #[.slice (some ⟨b, off, none⟩) n c, .string x] w fun e w' => e = .returned (.bool (Lib.containsS (zs.take n) x)) ∧ w' = w := Any.slices_Contains_string Tryz.lays110 b off n c zs x w hz hbig hc
open Go.Lib in
theorem Tryz.slices_Contains_string_empty (a : Option Addr) (c : Nat) (x : ByteArray) (w : World) :
    Calls Tryz.prog 186 #[.slice a 0 c, .string x] w fun e w' => e = .returned (.bool false) ∧ w' = w := Any.slices_Contains_string_empty Tryz.lays110 a c x w
def Tryz.lays112_ren : Go.Shelf.Ren := ⟨fun | 112 => 359 | n => n, fun | 28 => 22 | 3 => 3 | 4 => 4 | 0 => 0 | n => n, fun | n => n⟩
theorem Tryz.lays112 : Go.Proofs.Lays.n112 Tryz.prog Tryz.lays112_ren := {
  mixed := by kernel_rfl
  f112 := Tryz.func359.trans (congrArg some (by kernel_rfl))
  t0 := Tryz.underlying0
  a0 := Tryz.isAgg0
  z0 := Tryz.sizeOf0
  v0 := Tryz.zeroValue0
  t3 := Tryz.underlying3
  a3 := Tryz.isAgg3
  z3 := Tryz.sizeOf3
  v3 := Tryz.zeroValue3
  t4 := Tryz.underlying4
  a4 := Tryz.isAgg4
  z4 := Tryz.sizeOf4
  v4 := Tryz.zeroValue4
  t28 := Tryz.underlying22
  a28 := Tryz.isAgg22
  z28 := Tryz.sizeOf22
  v28 := Tryz.zeroValue22 }
open Go.RowKit Go.Lib Go.Sort in
theorem Tryz.slices_Reverse_int (blk off cap : Nat) (zs : List Int) (w : World) (hH : Holds (Value.int .i64) w blk off zs.toArray) (hsz : zs.length ≤ 9223372036854775807) :
    Calls Tryz.prog 359 #[.slice (some ⟨blk, off, none⟩) zs.length cap] w fun e w' => e = .returned (.tuple #[]) ∧ ∃ n, w' = putRow (Value.int .i64) (Sort.ahead w n) blk off zs.reverse.toArray := Any.slices_Reverse_int Tryz.lays112 blk off cap zs w hH hsz
open Go.RowKit Go.Lib Go.Sort in
theorem Tryz.slices_Reverse_int_empty (a : Option Addr) (cap : Nat) (w : World) :
    Calls Tryz.prog 359 #[.slice a 0 cap] w fun e w' => e = .returned (.tuple #[]) ∧ w' = w := Any.slices_Reverse_int_empty Tryz.lays112 a cap w
def Tryz.lays111_ren : Go.Shelf.Ren := ⟨fun | 111 => 38 | n => n, fun | 28 => 22 | 3 => 3 | 4 => 4 | 0 => 0 | n => n, fun | n => n⟩
theorem Tryz.lays111 : Go.Proofs.Lays.n111 Tryz.prog Tryz.lays111_ren := {
  mixed := by kernel_rfl
  f111 := Tryz.func38.trans (congrArg some (by kernel_rfl))
  t0 := Tryz.underlying0
  a0 := Tryz.isAgg0
  z0 := Tryz.sizeOf0
  v0 := Tryz.zeroValue0
  t3 := Tryz.underlying3
  a3 := Tryz.isAgg3
  z3 := Tryz.sizeOf3
  v3 := Tryz.zeroValue3
  t4 := Tryz.underlying4
  a4 := Tryz.isAgg4
  z4 := Tryz.sizeOf4
  v4 := Tryz.zeroValue4
  t28 := Tryz.underlying22
  a28 := Tryz.isAgg22
  z28 := Tryz.sizeOf22
  v28 := Tryz.zeroValue22 }
open Go.RowKit Go.Lib in
theorem Tryz.slices_Equal_int (b1 o1 n c b2 o2 m d : Nat) (xs ys : List Int) (w : World) (hx : n ≤ xs.length) (hy : m ≤ ys.length) (hbig : n ≤ 9223372036854775807) (hbig2 : m ≤ 9223372036854775807) (hc1 : ∀ j, j < xs.length → w.cell? ⟨b1, o1 + j, none⟩ = some (.int .i64 (xs.getD j 0))) (hc2 : ∀ j, j < ys.length → w.cell? ⟨b2, o2 + j, none⟩ = some (.int .i64 (ys.getD j 0))) :
    Calls Tryz.prog 38 #[.slice (some ⟨b1, o1, none⟩) n c, .slice (some ⟨b2, o2, none⟩) m d] w fun e w' => e = .returned (.bool (xs.take n == ys.take m)) ∧ ∃ q, w' = w.drewN q := Any.slices_Equal_int Tryz.lays111 b1 o1 n c b2 o2 m d xs ys w hx hy hbig hbig2 hc1 hc2
open Go.RowKit Go.Lib in
theorem Tryz.slices_Equal_int_empty (a1 a2 : Option Addr) (c m d : Nat) (w : World) (hbig2 : m ≤ 9223372036854775807) :
    Calls Tryz.prog 38 #[.slice a1 0 c, .slice a2 m d] w fun e w' => e = .returned (.bool (decide (m = 0))) ∧ w' = w := Any.slices_Equal_int_empty Tryz.lays111 a1 a2 c m d w hbig2
def Tryz.lays193_ren : Go.Shelf.Ren := ⟨fun | 193 => 99 | n => n, fun | 31 => 97 | 9 => 9 | 4 => 4 | 3 => 3 | 0 => 0 | n => n, fun | n => n⟩
theorem Tryz.lays193 : Go.Proofs.Lays.n193 Tryz.prog Tryz.lays193_ren := {
  mixed := by kernel_rfl
  f193 := Tryz.func99.trans (congrArg some (by kernel_rfl))
  t0 := Tryz.underlying0
  a0 := Tryz.isAgg0
  z0 := Tryz.sizeOf0
  v0 := Tryz.zeroValue0
  t3 := Tryz.underlying3
  a3 := Tryz.isAgg3
  z3 := Tryz.sizeOf3
  v3 := Tryz.zeroValue3
  t4 := Tryz.underlying4
  a4 := Tryz.isAgg4
  z4 := Tryz.sizeOf4
  v4 := Tryz.zeroValue4
  t9 := Tryz.underlying9
  a9 := Tryz.isAgg9
  z9 := Tryz.sizeOf9
  v9 := Tryz.zeroValue9
  t31 := Tryz.underlying97
  a31 := Tryz.isAgg97
  z31 := Tryz.sizeOf97
  v31 := Tryz.zeroValue97 }
open Go.RowKit Go.Lib in
theorem Tryz.slices_Equal_string (b1 o1 n c b2 o2 m d : Nat) (xs ys : List ByteArray) (w : World) (hx : n ≤ xs.length) (hy : m ≤ ys.length) (hbig : n ≤ 9223372036854775807) (hbig2 : m ≤ 9223372036854775807) (hc1 : ∀ j, j < xs.length → w.cell? ⟨b1, o1 + j, none⟩ = some (.string (xs.getD j ByteArray.empty))) (hc2 : ∀ j, j < ys.length → w.cell? ⟨b2, o2 + j, none⟩ = some (.string (ys.getD j ByteArray.empty))) :
    Calls Tryz.prog 99 #[.slice (some ⟨b1, o1, none⟩) n c, .slice (some ⟨b2, o2, none⟩) m d] w fun e w' => e = .returned (.bool (decide (xs.take n = ys.take m))) ∧ ∃ q, w' = w.drewN q := Any.slices_Equal_string Tryz.lays193 b1 o1 n c b2 o2 m d xs ys w hx hy hbig hbig2 hc1 hc2
open Go.RowKit Go.Lib in
theorem Tryz.slices_Equal_string_empty (a1 a2 : Option Addr) (c m d : Nat) (w : World) (hbig2 : m ≤ 9223372036854775807) :
    Calls Tryz.prog 99 #[.slice a1 0 c, .slice a2 m d] w fun e w' => e = .returned (.bool (decide (m = 0))) ∧ w' = w := Any.slices_Equal_string_empty Tryz.lays193 a1 a2 c m d w hbig2
def Tryz.laysNm215_ren : Go.Shelf.Ren := ⟨fun | 15 => 143 | n => n, fun | 22 => 22 | 3 => 3 | 4 => 4 | n => n, fun | n => n⟩
theorem Tryz.laysNm215 : Go.Proofs.Lays2.n15 Tryz.prog Tryz.laysNm215_ren := {
  mixed := by kernel_rfl
  f15 := Tryz.func143.trans (congrArg some (by kernel_rfl))
  t3 := Tryz.underlying3
  a3 := Tryz.isAgg3
  z3 := Tryz.sizeOf3
  v3 := Tryz.zeroValue3
  t4 := Tryz.underlying4
  a4 := Tryz.isAgg4
  z4 := Tryz.sizeOf4
  v4 := Tryz.zeroValue4
  t22 := Tryz.underlying22
  a22 := Tryz.isAgg22
  z22 := Tryz.sizeOf22
  v22 := Tryz.zeroValue22
  i3 := by kernel_rfl }
open Go.RowKit Go.Lib in
theorem Tryz.slices_Clone_int (b off n c : Nat) (zs : List Int) (w : World) (hz : n ≤ zs.length) (hbig : n * 8 ≤ 140737488355328) (hc : ∀ j, j < zs.length → w.cell? ⟨b, off + j, none⟩ = some (.int .i64 (zs.getD j 0))) :
    Calls Tryz.prog 143 #[.slice (some ⟨b, off, none⟩) n c] w fun e w' => ∃ v', e = .returned v' ∧ w'.ownsRow w.heap.size 3 1 v' n ((zs.take n).map (Value.int .i64)) ∧ v' ≠ .slice none 0 0 ∧ Below w.heap.size w w' := Any.slices_Clone_int Tryz.laysNm215 b off n c zs w hz hbig hc
open Go.RowKit Go.Lib in
theorem Tryz.slices_Clone_int_nil (n c : Nat) (w : World) :
    Calls Tryz.prog 143 #[.slice none n c] w fun e w' => e = .returned (.slice none 0 0) ∧ w' = w := Any.slices_Clone_int_nil Tryz.laysNm215 n c w
def Tryz.laysNm216_ren : Go.Shelf.Ren := ⟨fun | 16 => 298 | n => n, fun | 24 => 97 | 9 => 9 | 4 => 4 | n => n, fun | n => n⟩
theorem Tryz.laysNm216 : Go.Proofs.Lays2.n16 Tryz.prog Tryz.laysNm216_ren := {
  mixed := by kernel_rfl
  f16 := Tryz.func298.trans (congrArg some (by kernel_rfl))
  t4 := Tryz.underlying4
  a4 := Tryz.isAgg4
  z4 := Tryz.sizeOf4
  v4 := Tryz.zeroValue4
  t9 := Tryz.underlying9
  a9 := Tryz.isAgg9
  z9 := Tryz.sizeOf9
  v9 := Tryz.zeroValue9
  t24 := Tryz.underlying97
  a24 := Tryz.isAgg97
  z24 := Tryz.sizeOf97
  v24 := Tryz.zeroValue97
  i9 := by kernel_rfl }
open Go.RowKit Go.Lib in
theorem Tryz.slices_Clone_string (b off n c : Nat) (zs : List ByteArray) (w : World) (hz : n ≤ zs.length) (hbig : n * 16 ≤ 140737488355328) (hc : ∀ j, j < zs.length → w.cell? ⟨b, off + j, none⟩ = some (.string (zs.getD j ByteArray.empty))) :
    Calls Tryz.prog 298 #[.slice (some ⟨b, off, none⟩) n c] w fun e w' => ∃ v', e = .returned v' ∧ w'.ownsRow w.heap.size 9 1 v' n ((zs.take n).map (Value.string)) ∧ v' ≠ .slice none 0 0 ∧ Below w.heap.size w w' := Any.slices_Clone_string Tryz.laysNm216 b off n c zs w hz hbig hc
open Go.RowKit Go.Lib in
theorem Tryz.slices_Clone_string_nil (n c : Nat) (w : World) :
    Calls Tryz.prog 298 #[.slice none n c] w fun e w' => e = .returned (.slice none 0 0) ∧ w' = w := Any.slices_Clone_string_nil Tryz.laysNm216 n c w
open Go.RowKit Go.Lib in
theorem Tryz.slices_Clone_int_zero (a : Addr) (c : Nat) (w : World) :
    Calls Tryz.prog 143 #[.slice (some a) 0 c] w fun e w' => ∃ v', e = .returned v' ∧ w'.ownsRow w.heap.size 3 1 v' 0 [] ∧ v' ≠ .slice none 0 0 ∧ Below w.heap.size w w' := Any.slices_Clone_int_zero Tryz.laysNm215 a c w
open Go.RowKit Go.Lib in
theorem Tryz.slices_Clone_string_zero (a : Addr) (c : Nat) (w : World) :
    Calls Tryz.prog 298 #[.slice (some a) 0 c] w fun e w' => ∃ v', e = .returned v' ∧ w'.ownsRow w.heap.size 9 1 v' 0 [] ∧ v' ≠ .slice none 0 0 ∧ Below w.heap.size w w' := Any.slices_Clone_string_zero Tryz.laysNm216 a c w
def Tryz.lays194_ren : Go.Shelf.Ren := ⟨fun | 194 => 254 | n => n, fun | 31 => 97 | 9 => 9 | 3 => 3 | 4 => 4 | 0 => 0 | n => n, fun | n => n⟩
theorem Tryz.lays194 : Go.Proofs.Lays.n194 Tryz.prog Tryz.lays194_ren := {
  mixed := by kernel_rfl
  f194 := Tryz.func254.trans (congrArg some (by kernel_rfl))
  t0 := Tryz.underlying0
  a0 := Tryz.isAgg0
  z0 := Tryz.sizeOf0
  v0 := Tryz.zeroValue0
  t3 := Tryz.underlying3
  a3 := Tryz.isAgg3
  z3 := Tryz.sizeOf3
  v3 := Tryz.zeroValue3
  t4 := Tryz.underlying4
  a4 := Tryz.isAgg4
  z4 := Tryz.sizeOf4
  v4 := Tryz.zeroValue4
  t9 := Tryz.underlying9
  a9 := Tryz.isAgg9
  z9 := Tryz.sizeOf9
  v9 := Tryz.zeroValue9
  t31 := Tryz.underlying97
  a31 := Tryz.isAgg97
  z31 := Tryz.sizeOf97
  v31 := Tryz.zeroValue97 }
open Go.RowKit Go.Lib Go.Sort in
theorem Tryz.slices_Compact_string (blk off cap : Nat) (zs : List (List UInt8)) (w : World) (hH : Holds encStr w blk off zs.toArray) (hsz : zs.length ≤ 9223372036854775807) (hcap : zs.length ≤ cap) :
    Calls Tryz.prog 254 #[.slice (some ⟨blk, off, none⟩) zs.length cap] w fun e w' => e = .returned (.slice (some ⟨blk, off, none⟩) (Lib.compact zs).length cap) ∧ ∃ q, w' = putRow encStr (Sort.ahead w q) blk off (Lib.compact zs ++ List.replicate (zs.length - (Lib.compact zs).length) []).toArray := Any.slices_Compact_string Tryz.lays194 blk off cap zs w hH hsz hcap
open Go.RowKit Go.Lib Go.Sort in
theorem Tryz.slices_Compact_string_empty (a : Option Addr) (cap : Nat) (w : World) :
    Calls Tryz.prog 254 #[.slice a 0 cap] w fun e w' => e = .returned (.slice a 0 cap) ∧ w' = w := Any.slices_Compact_string_empty Tryz.lays194 a cap w
open Go.RowKit Go.Sort in
theorem Tryz.slices_Sort_string_none (p : Option Addr) (cap : Nat) (w : World) :
    Calls Tryz.prog 253 #[.slice p 0 cap] w fun e w' => e = .returned (.tuple #[]) ∧ w' = w := Any.slices_Sort_string_none Tryz.lays190 p cap w
open Go.RowKit Go.Sort in
theorem Tryz.slices_Sort_int_none (p : Option Addr) (cap : Nat) (w : World) :
    Calls Tryz.prog 313 #[.slice p 0 cap] w fun e w' => e = .returned (.tuple #[]) ∧ w' = w := Any.slices_Sort_int_none Tryz.lays189 p cap w
open Go.RowKit Go.Lib in
theorem Tryz.slices_Equal_int_lens (a1 a2 : Option Addr) (n c m d : Nat) (w : World) (hnm : n ≠ m) :
    Calls Tryz.prog 38 #[.slice a1 n c, .slice a2 m d] w fun e w' => e = .returned (.bool false) ∧ w' = w := Any.slices_Equal_int_lens Tryz.lays111 a1 a2 n c m d w hnm
open Go.RowKit Go.Lib in
theorem Tryz.slices_Equal_string_lens (a1 a2 : Option Addr) (n c m d : Nat) (w : World) (hnm : n ≠ m) :
    Calls Tryz.prog 99 #[.slice a1 n c, .slice a2 m d] w fun e w' => e = .returned (.bool false) ∧ w' = w := Any.slices_Equal_string_lens Tryz.lays193 a1 a2 n c m d w hnm
end Go.Proofs
