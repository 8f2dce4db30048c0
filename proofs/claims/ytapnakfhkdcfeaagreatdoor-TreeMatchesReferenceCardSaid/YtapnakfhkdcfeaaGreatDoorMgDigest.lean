/-
  The digest layer's contracts.
-/
import Derived.Shelf.Strings.Builder1
import Derived.Shelf.Strings.Builder2
import Derived.Shelf.Strings.Trim
import Derived.Shelf.Small.Utf8
import Derived.Shelf.Small.Strs
import Derived.Shelf.Strings.BuilderF
import Derived.Shelf.Strings.BuilderK
import Derived.Shelf.Strconv.Itoa0
import Derived.Shelf.Strconv.Itoa1
import Derived.Shelf.LaysM
import Derived.Shelf.Strconv.Itoa2
import Derived.Shelf.Strconv.Itoa3
import Derived.Shelf.Strings.Search1
import Derived.Shelf.Strings.Prefix
import Derived.Shelf.Unicode.Decode
import Derived.Shelf.Strings.Runes
import Derived.Shelf.Strings.AsciiSet
import Derived.Shelf.Bits.Mul64
import Derived.Shelf.Strings.Repeat
import Derived.Shelf.Unicode.DecodeSlow
import Derived.Shelf.Unicode.DecodeAny
import Derived.Shelf.Unicode.DecodeLast
import Derived.Ground.Names2Prog
import Derived.Shelf.Slices.ReverseS
import Derived.Shelf.Slices.Clone
import Derived.Shelf.Slices.Cells
import Derived.Ground.SlgnProg
import Derived.Shelf.SlicesE.Clone
import Derived.Test.YtapnakfhkdcfeaaGreatDoorProg
import Derived.WalkKit
import Derived.WalkLawsBesides
import Derived.WalkSpells
import Derived.Outline
import Derived.Lib.Hide
import Derived.Lib.Builder
import Derived.Lib.ItoaWalk
import Derived.Lib.ItoaMem
import Derived.Lib.BufferWrite
import Derived.Lib.IndexBytes
import Derived.Deep.DeepMust
import Derived.Laws.Rows
import Derived.Deep.RegionLaw
import Derived.RegionTactic
import Derived.WalkSmall
import Derived.Test.YtapnakfhkdcfeaaGreatDoorWWords
import Derived.Shelf.Strings.SlTrimAscii
import Derived.Laws.MakeOwn
import Derived.ChangeSlices
import Derived.SliceStrings
import Derived.SizedLaws
import Derived.Test.YtapnakfhkdcfeaaGreatDoorCards
import Derived.Test.YtapnakfhkdcfeaaGreatDoorTie
import Derived.ProofKit
import Derived.OpenShut
import Derived.ShutString
import Derived.Deep.DeepHandedRow
import Derived.Lib.LaidTab
namespace Go.Proofs
open Go.Shelf
def Tryz.lays169_ren : Go.Shelf.Ren := ⟨fun | 169 => 48 | n => n, fun | 70 => 57 | 9 => 9 | 0 => 0 | 72 => 60 | 37 => 58 | 127 => 76 | 3 => 3 | 5 => 5 | n => n, fun | n => n⟩
theorem Tryz.lays169 : Go.Proofs.Lays.n169 Tryz.prog Tryz.lays169_ren := {
  mixed := by kernel_rfl
  f169 := Tryz.func48.trans (congrArg some (by kernel_rfl))
  t0 := Tryz.underlying0
  a0 := Tryz.isAgg0
  z0 := Tryz.sizeOf0
  v0 := Tryz.zeroValue0
  t3 := Tryz.underlying3
  a3 := Tryz.isAgg3
  z3 := Tryz.sizeOf3
  v3 := Tryz.zeroValue3
  t9 := Tryz.underlying9
  a9 := Tryz.isAgg9
  z9 := Tryz.sizeOf9
  v9 := Tryz.zeroValue9
  t37 := Tryz.underlying58
  a37 := Tryz.isAgg58
  z37 := Tryz.sizeOf58
  v37 := Tryz.zeroValue58
  t70 := Tryz.underlying57
  a70 := Tryz.isAgg57
  z70 := Tryz.sizeOf57
  v70 := Tryz.zeroValue57
  t72 := Tryz.underlying60
  a72 := Tryz.isAgg60
  z72 := Tryz.sizeOf60
  v72 := Tryz.zeroValue60
  t127 := Tryz.underlying76
  a127 := Tryz.isAgg76
  z127 := Tryz.sizeOf76
  v127 := Tryz.zeroValue76 }
theorem Tryz.Builder_Extra_169 : Builder.Extra Tryz.prog Tryz.lays169_ren := {
  sizeBuilder := by kernel_rfl
  liesBuilder := by kernel_rfl
  t5 := Tryz.underlying5
  a5 := Tryz.isAgg5
  z5 := Tryz.sizeOf5
  v5 := Tryz.zeroValue5
  infoByte := by kernel_rfl
  cellsByte := by kernel_rfl
  sizeByte := by kernel_rfl
  neB5 := by decide }
open Go.RowKit in
/-- (*strings.Builder).String: "String returns the accumulated string.": WHATEVER THE BUILDER HOLDS. (LAID: no walk: one application.) -/
theorem Tryz.Builder_String_any (B b : Nat) (l : List UInt8) (w : World) (h : Lib.IsBuilder 60 5 B b (Lib.byteCells l) w) (hBw : B ≤ w.heap.size) :
    Calls Tryz.prog 48 #[.pointer (some ⟨b, 0, none⟩)] w fun e w' => e = .returned (.string ⟨l.toArray⟩) ∧ Below B w w' := Any.Builder_String_any Tryz.lays169 Tryz.Builder_Extra_169 B b l w h hBw
def Tryz.lays160_ren : Go.Shelf.Ren := ⟨fun | 160 => 56 | 232 => 69 | 231 => 68 | 227 => 70 | 234 => 72 | 233 => 71 | 236 => 74 | 235 => 73 | 228 => 83 | 271 => 86 | 151 => 85 | 197 => 84 | 120 => 97 | 152 => 96 | 260 => 95 | 137 => 104 | 119 => 105 | 224 => 106 | 225 => 107 | 217 => 110 | 266 => 111 | n => n, fun | 9 => 9 | 4 => 4 | 3 => 3 | 5 => 5 | 117 => 82 | 116 => 81 | 0 => 0 | 124 => 85 | 21 => 21 | 105 => 98 | 46 => 68 | 119 => 118 | 139 => 121 | 138 => 120 | n => n, fun | 3 => 1 | 4 => 2 | n => n⟩
theorem Tryz.lays160 : Go.Proofs.Lays.n160 Tryz.prog Tryz.lays160_ren := {
  mixed := by kernel_rfl
  f119 := Tryz.func105.trans (congrArg some (by kernel_rfl))
  f120 := Tryz.func97.trans (congrArg some (by kernel_rfl))
  f137 := Tryz.func104.trans (congrArg some (by kernel_rfl))
  f151 := Tryz.func85.trans (congrArg some (by kernel_rfl))
  f152 := Tryz.func96.trans (congrArg some (by kernel_rfl))
  f160 := Tryz.func56.trans (congrArg some (by kernel_rfl))
  f197 := Tryz.func84.trans (congrArg some (by kernel_rfl))
  f217 := Tryz.func110.trans (congrArg some (by kernel_rfl))
  f224 := Tryz.func106.trans (congrArg some (by kernel_rfl))
  f225 := Tryz.func107.trans (congrArg some (by kernel_rfl))
  f227 := Tryz.func70.trans (congrArg some (by kernel_rfl))
  f228 := Tryz.func83.trans (congrArg some (by kernel_rfl))
  f231 := Tryz.func68.trans (congrArg some (by kernel_rfl))
  f232 := Tryz.func69.trans (congrArg some (by kernel_rfl))
  f233 := Tryz.func71.trans (congrArg some (by kernel_rfl))
  f234 := Tryz.func72.trans (congrArg some (by kernel_rfl))
  f235 := Tryz.func73.trans (congrArg some (by kernel_rfl))
  f236 := Tryz.func74.trans (congrArg some (by kernel_rfl))
  f260 := Tryz.func95.trans (congrArg some (by kernel_rfl))
  f266 := Tryz.func111.trans (congrArg some (by kernel_rfl))
  f271 := Tryz.func86.trans (congrArg some (by kernel_rfl))
  t0 := Tryz.underlying0
  a0 := Tryz.isAgg0
  z0 := Tryz.sizeOf0
  v0 := Tryz.zeroValue0
  t3 := Tryz.underlying3
  a3 := Tryz.isAgg3
  z3 := Tryz.sizeOf3
  v3 := Tryz.zeroValue3
  t4 := Tryz.underlying4
  a4 := Tryz.isAgg4
  z4 := Tryz.sizeOf4
  v4 := Tryz.zeroValue4
  t5 := Tryz.underlying5
  a5 := Tryz.isAgg5
  z5 := Tryz.sizeOf5
  v5 := Tryz.zeroValue5
  t9 := Tryz.underlying9
  a9 := Tryz.isAgg9
  z9 := Tryz.sizeOf9
  v9 := Tryz.zeroValue9
  t21 := Tryz.underlying21
  a21 := Tryz.isAgg21
  z21 := Tryz.sizeOf21
  v21 := Tryz.zeroValue21
  t46 := Tryz.underlying68
  a46 := Tryz.isAgg68
  z46 := Tryz.sizeOf68
  v46 := Tryz.zeroValue68
  t105 := Tryz.underlying98
  a105 := Tryz.isAgg98
  z105 := Tryz.sizeOf98
  v105 := Tryz.zeroValue98
  t116 := Tryz.underlying81
  a116 := Tryz.isAgg81
  z116 := Tryz.sizeOf81
  t117 := Tryz.underlying82
  a117 := Tryz.isAgg82
  z117 := Tryz.sizeOf82
  v117 := Tryz.zeroValue82
  t119 := Tryz.underlying118
  a119 := Tryz.isAgg118
  z119 := Tryz.sizeOf118
  t124 := Tryz.underlying85
  a124 := Tryz.isAgg85
  z124 := Tryz.sizeOf85
  v124 := Tryz.zeroValue85
  t138 := Tryz.underlying120
  a138 := Tryz.isAgg120
  z138 := Tryz.sizeOf120
  v138 := Tryz.zeroValue120
  t139 := Tryz.underlying121
  a139 := Tryz.isAgg121
  z139 := Tryz.sizeOf121
  v139 := Tryz.zeroValue121
  g3 := by kernel_rfl
  g4 := by kernel_rfl }
open Go.RowKit in
/-- strings.Trim: "Trim returns a slice of the string s with all leading and trailing Unicode code points contained in cutset removed.": AT A cutset OF ONE ASCII BYTE. THE WORLD BEHIND IT: as it was, or (where s is not empty) with ONE DRAW MORE off the tape: the statement 'return trimLeftByte(trimRightByte(s, c), c)' draws its order of evaluation. (LAID: no walk: one application.) -/
theorem Tryz.strings_Trim_one (s : ByteArray) (c : UInt8) (hc : c.toNat < 128) (w : World) (hs : s.size ≤ 9223372036854775807) :
    Calls Tryz.prog 56 #[.string s, .string ⟨#[c]⟩] w fun e w' => e = .returned (.string ⟨(Lib.trimB s.data.toList c).toArray⟩) ∧ (w' = w ∨ w' = w.drew) := Any.strings_Trim_one Tryz.lays160 s c hc w hs
def Tryz.laysM171_ren : Go.Shelf.Ren := ⟨fun | 171 => 45 | 243 => 60 | 246 => 76 | 283 => 87 | 284 => 88 | 285 => 89 | 286 => 90 | 129 => 99 | 317 => 98 | 318 => 100 | 319 => 101 | 320 => 102 | 337 => 108 | 338 => 109 | n => n, fun | 3 => 3 | 9 => 9 | 2 => 2 | 4 => 4 | 171 => 101 | 0 => 0 | 53 => 70 | 37 => 58 | 5 => 5 | 173 => 104 | 212 => 113 | 51 => 106 | 20 => 20 | 213 => 114 | 46 => 68 | 232 => 126 | 233 => 127 | n => n, fun | 17 => 0 | 18 => 4 | 19 => 5 | n => n⟩
theorem Tryz.laysM171 : Go.Proofs.LaysM.n171 Tryz.prog Tryz.laysM171_ren := {
  mixed := by kernel_rfl
  f129 := Tryz.func99.trans (congrArg some (by kernel_rfl))
  f171 := Tryz.func45.trans (congrArg some (by kernel_rfl))
  f243 := Tryz.func60.trans (congrArg some (by kernel_rfl))
  f246 := Tryz.func76.trans (congrArg some (by kernel_rfl))
  f283 := Tryz.func87.trans (congrArg some (by kernel_rfl))
  f284 := Tryz.func88.trans (congrArg some (by kernel_rfl))
  f285 := Tryz.func89.trans (congrArg some (by kernel_rfl))
  f286 := Tryz.func90.trans (congrArg some (by kernel_rfl))
  f317 := Tryz.func98.trans (congrArg some (by kernel_rfl))
  f318 := Tryz.func100.trans (congrArg some (by kernel_rfl))
  f319 := Tryz.func101.trans (congrArg some (by kernel_rfl))
  f320 := Tryz.func102.trans (congrArg some (by kernel_rfl))
  f337 := Tryz.func108.trans (congrArg some (by kernel_rfl))
  f338 := Tryz.func109.trans (congrArg some (by kernel_rfl))
  t0 := Tryz.underlying0
  a0 := Tryz.isAgg0
  z0 := Tryz.sizeOf0
  v0 := Tryz.zeroValue0
  t2 := Tryz.underlying2
  a2 := Tryz.isAgg2
  z2 := Tryz.sizeOf2
  v2 := Tryz.zeroValue2
  t3 := Tryz.underlying3
  a3 := Tryz.isAgg3
  z3 := Tryz.sizeOf3
  v3 := Tryz.zeroValue3
  t4 := Tryz.underlying4
  a4 := Tryz.isAgg4
  z4 := Tryz.sizeOf4
  v4 := Tryz.zeroValue4
  t5 := Tryz.underlying5
  a5 := Tryz.isAgg5
  z5 := Tryz.sizeOf5
  v5 := Tryz.zeroValue5
  t9 := Tryz.underlying9
  a9 := Tryz.isAgg9
  z9 := Tryz.sizeOf9
  v9 := Tryz.zeroValue9
  t20 := Tryz.underlying20
  a20 := Tryz.isAgg20
  z20 := Tryz.sizeOf20
  v20 := Tryz.zeroValue20
  t37 := Tryz.underlying58
  a37 := Tryz.isAgg58
  z37 := Tryz.sizeOf58
  v37 := Tryz.zeroValue58
  t46 := Tryz.underlying68
  a46 := Tryz.isAgg68
  z46 := Tryz.sizeOf68
  v46 := Tryz.zeroValue68
  t51 := Tryz.underlying106
  a51 := Tryz.isAgg106
  z51 := Tryz.sizeOf106
  v51 := Tryz.zeroValue106
  t53 := Tryz.underlying70
  a53 := Tryz.isAgg70
  z53 := Tryz.sizeOf70
  v53 := Tryz.zeroValue70
  t171 := Tryz.underlying101
  a171 := Tryz.isAgg101
  z171 := Tryz.sizeOf101
  v171 := Tryz.zeroValue101
  t173 := Tryz.underlying104
  a173 := Tryz.isAgg104
  z173 := Tryz.sizeOf104
  v173 := Tryz.zeroValue104
  t212 := Tryz.underlying113
  a212 := Tryz.isAgg113
  z212 := Tryz.sizeOf113
  v212 := Tryz.zeroValue113
  t213 := Tryz.underlying114
  a213 := Tryz.isAgg114
  z213 := Tryz.sizeOf114
  t232 := Tryz.underlying126
  a232 := Tryz.isAgg126
  z232 := Tryz.sizeOf126
  v232 := Tryz.zeroValue126
  t233 := Tryz.underlying127
  a233 := Tryz.isAgg127
  z233 := Tryz.sizeOf127
  v233 := Tryz.zeroValue127
  g17 := by kernel_rfl
  g18 := by kernel_rfl
  g19 := by kernel_rfl
  i0 := by kernel_rfl
  i2 := by kernel_rfl
  i3 := by kernel_rfl
  i4 := by kernel_rfl
  i5 := by kernel_rfl
  i9 := by kernel_rfl
  i20 := by kernel_rfl
  i37 := by kernel_rfl
  i46 := by kernel_rfl
  i51 := by kernel_rfl
  i53 := by kernel_rfl
  i171 := by kernel_rfl
  i173 := by kernel_rfl
  i212 := by kernel_rfl
  i232 := by kernel_rfl
  i233 := by kernel_rfl
  m17 := by kernel_rfl
  m18 := by kernel_rfl
  m19 := by kernel_rfl }
open Go.RowKit Go.Sort Go.Lib in
/-- strconv.Itoa: "Itoa is equivalent to FormatInt(int64(i), 10).": i's DECIMAL NUMERAL ('Lib.itoa': a '-' where i is negative, then the digits), FOR EVERY int. The world behind the call: the world before it, new blocks behind the heap (the library's 'var a [24]byte'), draws. (LAID: no walk: one application.) -/
theorem Tryz.strconv_Itoa (n : Int) (h0 : -9223372036854775808 ≤ n) (h1 : n ≤ 9223372036854775807) (w : World) (htab : Lib.TabIs Tryz.prog w "internal/strconv.uint64pow10" .u64 Lib.pow10Tab) :
    Calls Tryz.prog 45 #[.int .i64 n] w fun e w' => e = .returned (.string ⟨(Lib.itoa n).toArray⟩) ∧ ∃ k os, w' = grow (w.drewN k) os := Any.strconv_Itoa Tryz.laysM171 n h0 h1 w htab
def Tryz.lays105_ren : Go.Shelf.Ren := ⟨fun | 105 => 64 | 212 => 78 | 99 => 79 | 165 => 80 | 166 => 44 | 170 => 81 | 169 => 48 | 263 => 91 | 264 => 92 | 206 => 93 | 240 => 59 | 241 => 94 | 276 => 75 | 277 => 103 | n => n, fun | 9 => 9 | 3 => 3 | 4 => 4 | 20 => 20 | 0 => 0 | 46 => 68 | 109 => 91 | 5 => 5 | 72 => 60 | 76 => 63 | 51 => 106 | 146 => 107 | 53 => 70 | 148 => 109 | 70 => 57 | 37 => 58 | 75 => 62 | 127 => 76 | 164 => 86 | 80 => 49 | n => n, fun | n => n⟩
theorem Tryz.lays105 : Go.Proofs.Lays.n105 Tryz.prog Tryz.lays105_ren := {
  mixed := by kernel_rfl
  f99 := Tryz.func79.trans (congrArg some (by kernel_rfl))
  f105 := Tryz.func64.trans (congrArg some (by kernel_rfl))
  f165 := Tryz.func80.trans (congrArg some (by kernel_rfl))
  f166 := Tryz.func44.trans (congrArg some (by kernel_rfl))
  f169 := Tryz.func48.trans (congrArg some (by kernel_rfl))
  f170 := Tryz.func81.trans (congrArg some (by kernel_rfl))
  f206 := Tryz.func93.trans (congrArg some (by kernel_rfl))
  f212 := Tryz.func78.trans (congrArg some (by kernel_rfl))
  f240 := Tryz.func59.trans (congrArg some (by kernel_rfl))
  f241 := Tryz.func94.trans (congrArg some (by kernel_rfl))
  f263 := Tryz.func91.trans (congrArg some (by kernel_rfl))
  f264 := Tryz.func92.trans (congrArg some (by kernel_rfl))
  f276 := Tryz.func75.trans (congrArg some (by kernel_rfl))
  f277 := Tryz.func103.trans (congrArg some (by kernel_rfl))
  t0 := Tryz.underlying0
  a0 := Tryz.isAgg0
  z0 := Tryz.sizeOf0
  v0 := Tryz.zeroValue0
  t3 := Tryz.underlying3
  a3 := Tryz.isAgg3
  z3 := Tryz.sizeOf3
  v3 := Tryz.zeroValue3
  t4 := Tryz.underlying4
  a4 := Tryz.isAgg4
  z4 := Tryz.sizeOf4
  v4 := Tryz.zeroValue4
  t5 := Tryz.underlying5
  a5 := Tryz.isAgg5
  z5 := Tryz.sizeOf5
  v5 := Tryz.zeroValue5
  t9 := Tryz.underlying9
  a9 := Tryz.isAgg9
  z9 := Tryz.sizeOf9
  v9 := Tryz.zeroValue9
  t20 := Tryz.underlying20
  a20 := Tryz.isAgg20
  z20 := Tryz.sizeOf20
  v20 := Tryz.zeroValue20
  t37 := Tryz.underlying58
  a37 := Tryz.isAgg58
  z37 := Tryz.sizeOf58
  v37 := Tryz.zeroValue58
  t46 := Tryz.underlying68
  a46 := Tryz.isAgg68
  z46 := Tryz.sizeOf68
  v46 := Tryz.zeroValue68
  t51 := Tryz.underlying106
  a51 := Tryz.isAgg106
  z51 := Tryz.sizeOf106
  v51 := Tryz.zeroValue106
  t53 := Tryz.underlying70
  a53 := Tryz.isAgg70
  z53 := Tryz.sizeOf70
  v53 := Tryz.zeroValue70
  t70 := Tryz.underlying57
  a70 := Tryz.isAgg57
  z70 := Tryz.sizeOf57
  v70 := Tryz.zeroValue57
  t72 := Tryz.underlying60
  a72 := Tryz.isAgg60
  z72 := Tryz.sizeOf60
  v72 := Tryz.zeroValue60
  t75 := Tryz.underlying62
  a75 := Tryz.isAgg62
  z75 := Tryz.sizeOf62
  v75 := Tryz.zeroValue62
  t76 := Tryz.underlying63
  a76 := Tryz.isAgg63
  z76 := Tryz.sizeOf63
  v76 := Tryz.zeroValue63
  t109 := Tryz.underlying91
  a109 := Tryz.isAgg91
  z109 := Tryz.sizeOf91
  v109 := Tryz.zeroValue91
  t127 := Tryz.underlying76
  a127 := Tryz.isAgg76
  z127 := Tryz.sizeOf76
  v127 := Tryz.zeroValue76
  t146 := Tryz.underlying107
  a146 := Tryz.isAgg107
  z146 := Tryz.sizeOf107
  v146 := Tryz.zeroValue107
  t148 := Tryz.underlying109
  a148 := Tryz.isAgg109
  z148 := Tryz.sizeOf109
  v148 := Tryz.zeroValue109
  t164 := Tryz.underlying86
  a164 := Tryz.isAgg86
  z164 := Tryz.sizeOf86
  v164 := Tryz.zeroValue86 }
theorem Tryz.Builder_Extra_105 : Builder.Extra Tryz.prog Tryz.lays105_ren := {
  sizeBuilder := by kernel_rfl
  liesBuilder := by kernel_rfl
  t5 := Tryz.underlying5
  a5 := Tryz.isAgg5
  z5 := Tryz.sizeOf5
  v5 := Tryz.zeroValue5
  infoByte := by kernel_rfl
  cellsByte := by kernel_rfl
  sizeByte := by kernel_rfl
  neB5 := by decide }
open Go.RowKit Go.Lib in
/-- **strings.Repeat: count ≥ 0, the result within one allocation: count copies of s.** (LAID: no walk: one application.) -/
theorem Tryz.strings_Repeat (s : ByteArray) (c : Nat) (w : World) (hc : c ≤ 9223372036854775807) (hlen : s.size * c ≤ 140737488355328) :
    Calls Tryz.prog 64 #[.string s, .int .i64 c] w fun e w' => e = .returned (.string ⟨(Lib.repeatL s.data.toList c).toArray⟩) ∧ Below w.heap.size w w' := Any.strings_Repeat Tryz.lays105 Tryz.Builder_Extra_105 s c w hc hlen
end Go.Proofs

set_option linter.unusedVariables false
set_option linter.unusedSimpArgs false
namespace Go.Proofs.YtapnakfhkdcfeaaGreatDoor.Dg

/-- One mixing step, on numbers below 2^64. -/
def mixN (x : Nat) : Nat :=
  let a := ((x ^^^ (x / 2147483648)) * 14029467366897019727) % 18446744073709551616
  let b := ((a ^^^ (a / 134217728)) * 11400714785074694791) % 18446744073709551616
  b ^^^ (b / 8589934592)

/-- The byte at a place, 0 behind the end. -/
def byteN (l : List UInt8) (i : Nat) : Nat := (l.getD i 0).toNat
/-- The first k bytes of the block at a place, as a number. -/
def blockTo (l : List UInt8) (o : Nat) : Nat → Nat
  | 0 => 0
  | k + 1 => blockTo l o k * 256 + byteN l (o + k)
/-- The state behind k blocks. -/
def stN (l : List UInt8) : Nat → Nat
  | 0 => 1442695040888963407 ^^^ l.length
  | k + 1 => mixN (stN l k ^^^ blockTo l (8 * k) 8)
def sumN (l : List UInt8) : Nat := stN l (l.length / 8 + 1)
/-- A hexadecimal digit. -/
def hexd (d : Nat) : UInt8 := if d < 10 then UInt8.ofNat (48 + d) else UInt8.ofNat (87 + d)
/-- The last k hexadecimal digits. -/
def hexTo (n : Nat) : Nat → List UInt8
  | 0 => []
  | k + 1 => hexTo (n / 16) k ++ [hexd (n % 16)]
def sumL (l : List UInt8) : List UInt8 := hexTo (sumN l) 16

theorem byteN_lt (l : List UInt8) (i : Nat) : byteN l i < 256 := by
  unfold byteN; exact UInt8.toNat_lt _

theorem blockTo_lt (l : List UInt8) (o k : Nat) : blockTo l o k < 256 ^ k := by
  induction k with
  | zero => simp [blockTo]
  | succ k ih =>
    have := byteN_lt l (o + k)
    simp only [blockTo, Nat.pow_succ]
    omega

theorem xor_self_mid (x y a b : Nat) (h : x ^^^ a = y ^^^ b) : x ^^^ y = a ^^^ b := by
  have h1 : x = (y ^^^ b) ^^^ a := by rw [← h, Nat.xor_assoc, Nat.xor_self, Nat.xor_zero]
  have h2 : x ^^^ y = ((y ^^^ b) ^^^ a) ^^^ y := congrArg (· ^^^ y) h1
  rw [h2, Nat.xor_comm ((y ^^^ b) ^^^ a) y, ← Nat.xor_assoc, ← Nat.xor_assoc, Nat.xor_self, Nat.zero_xor, Nat.xor_comm]

theorem eq_of_xor_zero (x y : Nat) (h : x ^^^ y = 0) : x = y := by
  have h1 : (x ^^^ y) ^^^ y = 0 ^^^ y := congrArg (· ^^^ y) h
  rwa [Nat.xor_assoc, Nat.xor_self, Nat.xor_zero, Nat.zero_xor] at h1

theorem xshift_inj (k : Nat) (hk : 0 < k) (x y : Nat) (h : x ^^^ (x / 2 ^ k) = y ^^^ (y / 2 ^ k)) : x = y := by
  have h1 := xor_self_mid x y _ _ h
  rw [← Nat.shiftRight_eq_div_pow, ← Nat.shiftRight_eq_div_pow, ← Nat.shiftRight_xor_distrib, Nat.shiftRight_eq_div_pow] at h1
  refine eq_of_xor_zero x y ?_
  rcases Nat.eq_zero_or_pos (x ^^^ y) with h0 | h0
  · exact h0
  · have h2 : (x ^^^ y) / 2 ^ k < x ^^^ y := Nat.div_lt_self h0 (Nat.one_lt_two_pow (by omega))
    omega

theorem mul_inj (c d x y : Nat) (hcd : c * d % 18446744073709551616 = 1) (hx : x < 18446744073709551616) (hy : y < 18446744073709551616)
    (h : x * c % 18446744073709551616 = y * c % 18446744073709551616) : x = y := by
  have back : ∀ z, z < 18446744073709551616 → (z * c % 18446744073709551616) * d % 18446744073709551616 = z := by
    intro z hz
    rw [Nat.mod_mul_mod, Nat.mul_assoc, Nat.mul_mod, hcd, Nat.mul_one, Nat.mod_mod, Nat.mod_eq_of_lt hz]
  rw [← back x hx, ← back y hy, h]

theorem xor_lt (x y : Nat) (hx : x < 18446744073709551616) (hy : y < 18446744073709551616) : x ^^^ y < 18446744073709551616 :=
  Nat.xor_lt_two_pow (n := 64) hx hy

theorem mixN_lt (x : Nat) : mixN x < 18446744073709551616 := by
  unfold mixN
  refine xor_lt _ _ (Nat.mod_lt _ (by decide)) ?_
  exact Nat.lt_of_le_of_lt (Nat.div_le_self _ _) (Nat.mod_lt _ (by decide))

theorem mixN_inj (x y : Nat) (hx : x < 18446744073709551616) (hy : y < 18446744073709551616) (h : mixN x = mixN y) : x = y := by
  unfold mixN at h
  have h1 := xshift_inj 33 (by decide) _ _ h
  have lx : ∀ z k : Nat, z < 18446744073709551616 → z ^^^ (z / k) < 18446744073709551616 := fun z k hz =>
    xor_lt _ _ hz (Nat.lt_of_le_of_lt (Nat.div_le_self _ _) hz)
  have h2 := mul_inj 11400714785074694791 614540362697595703 _ _ (by decide) (lx _ _ (Nat.mod_lt _ (by decide))) (lx _ _ (Nat.mod_lt _ (by decide))) h1
  have h3 := xshift_inj 27 (by decide) _ _ h2
  have h4 := mul_inj 14029467366897019727 839798700976720815 _ _ (by decide) (lx _ _ hx) (lx _ _ hy) h3
  exact xshift_inj 31 (by decide) _ _ h4

theorem blockTo8_lt (l : List UInt8) (o : Nat) : blockTo l o 8 < 18446744073709551616 := blockTo_lt l o 8

theorem stN_lt (l : List UInt8) (hl : l.length < 18446744073709551616) : ∀ k, stN l k < 18446744073709551616
  | 0 => by unfold stN; exact xor_lt _ _ (by decide) hl
  | k + 1 => by unfold stN; exact mixN_lt _

theorem sumN_lt (l : List UInt8) : sumN l < 18446744073709551616 := by
  unfold sumN stN; exact mixN_lt _

theorem xor_right_inj' (x a b : Nat) (h : x ^^^ a = x ^^^ b) : a = b := by
  have h1 := xor_self_mid x x a b h
  rw [Nat.xor_self] at h1
  exact eq_of_xor_zero _ _ h1.symm
theorem xor_left_inj' (x y a : Nat) (h : x ^^^ a = y ^^^ a) : x = y := by
  rw [Nat.xor_comm x, Nat.xor_comm y] at h
  exact xor_right_inj' a x y h

/-! ### hexadecimal digits -/

theorem hexd_toNat (d : Nat) (h : d < 16) : (hexd d).toNat = if d < 10 then 48 + d else 87 + d := by
  unfold hexd
  split
  · simp; omega
  · simp; omega

theorem hexd_inj (a b : Nat) (ha : a < 16) (hb : b < 16) (h : hexd a = hexd b) : a = b := by
  have := congrArg UInt8.toNat h
  rw [hexd_toNat a ha, hexd_toNat b hb] at this
  split at this <;> split at this <;> omega

theorem hexTo_length (k : Nat) : ∀ n, (hexTo n k).length = k := by
  induction k with
  | zero => intro n; rfl
  | succ k ih => intro n; simp [hexTo, ih]

theorem hexTo_inj (k : Nat) : ∀ n m, n < 16 ^ k → m < 16 ^ k → hexTo n k = hexTo m k → n = m := by
  induction k with
  | zero => intro n m hn hm _; simp at hn hm; omega
  | succ k ih =>
    intro n m hn hm h
    simp only [hexTo] at h
    have h1 := List.append_inj h (by rw [hexTo_length, hexTo_length])
    have h2 := ih (n / 16) (m / 16) (by rw [Nat.pow_succ] at hn; omega) (by rw [Nat.pow_succ] at hm; omega) h1.1
    have h3 := hexd_inj _ _ (Nat.mod_lt _ (by decide)) (Nat.mod_lt _ (by decide)) (List.cons.inj h1.2).1
    omega

theorem sumL_length (l : List UInt8) : (sumL l).length = 16 := hexTo_length 16 _

theorem sumL_inj (l m : List UInt8) (h : sumL l = sumL m) : sumN l = sumN m :=
  hexTo_inj 16 _ _ (sumN_lt l) (sumN_lt m) h

/-- Leading zeros. -/
theorem hexTo_pad (j : Nat) : ∀ k n, n < 16 ^ j → List.replicate k 48 ++ hexTo n j = hexTo n (k + j) := by
  have zero : ∀ k, hexTo 0 k = List.replicate k 48 := by
    intro k
    induction k with
    | zero => rfl
    | succ k ih => simp only [hexTo, Nat.zero_div, ih]; rw [List.replicate_succ']; rfl
  induction j with
  | zero =>
    intro k n hn
    have : n = 0 := by simpa using hn
    subst this
    simp [hexTo, zero]
  | succ j ih =>
    intro k n hn
    have h := ih k (n / 16) (by rw [Nat.pow_succ] at hn; omega)
    rw [← Nat.add_assoc]
    simp only [hexTo, ← h, List.append_assoc]

/-! ### what a digest tells -/

theorem stN_inj_from (l m : List UInt8) (h : l.length = m.length) (hl : l.length < 18446744073709551616) (i : Nat) (j : Nat) (hb : ∀ k, i ≤ k → blockTo l (8 * k) 8 = blockTo m (8 * k) 8)
    (hs : stN l (i + j) = stN m (i + j)) : stN l i = stN m i := by
  induction j with
  | zero => exact hs
  | succ j ih =>
    refine ih ?_
    have hs' : mixN (stN l (i + j) ^^^ blockTo l (8 * (i + j)) 8) = mixN (stN m (i + j) ^^^ blockTo m (8 * (i + j)) 8) := hs
    have h1 := mixN_inj _ _ (xor_lt _ _ (stN_lt l hl _) (blockTo8_lt _ _)) (xor_lt _ _ (stN_lt m (h ▸ hl) _) (blockTo8_lt _ _)) hs'
    rw [hb (i + j) (by omega)] at h1
    exact xor_left_inj' _ _ _ h1

theorem stN_congr (l m : List UInt8) (h : l.length = m.length) : ∀ i, (∀ k, k < i → blockTo l (8 * k) 8 = blockTo m (8 * k) 8) → stN l i = stN m i
  | 0, _ => by unfold stN; rw [h]
  | i + 1, hb => by
    unfold stN
    rw [stN_congr l m h i (fun k hk => hb k (by omega)), hb i (by omega)]

/-- Texts that differ in one block alone have the same digest only if the blocks are the same. -/
theorem one_block (l m : List UInt8) (h : l.length = m.length) (hl : l.length < 18446744073709551616) (i : Nat) (hi : i ≤ l.length / 8)
    (hb : ∀ k, k ≠ i → blockTo l (8 * k) 8 = blockTo m (8 * k) 8) (hs : sumL l = sumL m) : blockTo l (8 * i) 8 = blockTo m (8 * i) 8 := by
  have h0 := sumL_inj l m hs
  unfold sumN at h0
  rw [← h] at h0
  have h1 := stN_inj_from l m h hl (i + 1) (l.length / 8 + 1 - (i + 1)) (fun k hk => hb k (by omega)) (by rw [show i + 1 + (l.length / 8 + 1 - (i + 1)) = l.length / 8 + 1 from by omega]; exact h0)
  have h2 : stN l i = stN m i := stN_congr l m h i (fun k hk => hb k (by omega))
  have h3 : mixN (stN l i ^^^ blockTo l (8 * i) 8) = mixN (stN m i ^^^ blockTo m (8 * i) 8) := h1
  have h4 := mixN_inj _ _ (xor_lt _ _ (stN_lt l hl _) (blockTo8_lt _ _)) (xor_lt _ _ (stN_lt m (h ▸ hl) _) (blockTo8_lt _ _)) h3
  rw [h2] at h4
  exact xor_right_inj' _ _ _ h4

theorem blockTo_bytes (l m : List UInt8) (o p : Nat) : ∀ k, blockTo l o k = blockTo m p k → ∀ i, i < k → byteN l (o + i) = byteN m (p + i)
  | 0, _, i, hi => absurd hi (Nat.not_lt_zero i)
  | k + 1, h, i, hi => by
    simp only [blockTo] at h
    have a := byteN_lt l (o + k)
    have b := byteN_lt m (p + k)
    have h1 : blockTo l o k = blockTo m p k := by omega
    have h2 : byteN l (o + k) = byteN m (p + k) := by omega
    rcases Nat.lt_or_ge i k with hik | hik
    · exact blockTo_bytes l m o p k h1 i hik
    · have : i = k := by omega
      subst this
      exact h2

theorem blockTo_congr (l m : List UInt8) (o : Nat) : ∀ k, (∀ i, i < k → byteN l (o + i) = byteN m (o + i)) → blockTo l o k = blockTo m o k
  | 0, _ => rfl
  | k + 1, h => by
    simp only [blockTo]
    rw [blockTo_congr l m o k (fun i hi => h i (by omega)), h k (by omega)]

theorem eq_of_bytes (l m : List UInt8) (h : l.length = m.length) (hb : ∀ i, i < l.length → byteN l i = byteN m i) : l = m := by
  refine List.ext_getElem h fun i h1 h2 => ?_
  have := hb i h1
  simp only [byteN, List.getD, List.getElem?_eq_getElem h1, List.getElem?_eq_getElem h2, Option.getD_some] at this
  exact UInt8.toNat_inj.1 this

/-- Texts of at most seven bytes have the same digest only if they are equal: the last byte of the state before mixing tells the length. -/
theorem short_inj (l m : List UInt8) (hl : l.length ≤ 7) (hm : m.length ≤ 7) (hs : sumL l = sumL m) : l = m := by
  have h0 := sumL_inj l m hs
  have el : sumN l = mixN ((1442695040888963407 ^^^ l.length) ^^^ blockTo l 0 8) := by
    unfold sumN; rw [show l.length / 8 = 0 from by omega]; rfl
  have em : sumN m = mixN ((1442695040888963407 ^^^ m.length) ^^^ blockTo m 0 8) := by
    unfold sumN; rw [show m.length / 8 = 0 from by omega]; rfl
  rw [el, em] at h0
  have h1 := mixN_inj _ _ (xor_lt _ _ (xor_lt _ _ (by decide) (by omega)) (blockTo8_lt _ _)) (xor_lt _ _ (xor_lt _ _ (by decide) (by omega)) (blockTo8_lt _ _)) h0
  rw [Nat.xor_assoc, Nat.xor_assoc] at h1
  have h2 := xor_right_inj' _ _ _ h1
  have last : ∀ z : List UInt8, z.length ≤ 7 → blockTo z 0 8 = blockTo z 0 7 * 256 := by
    intro z hz
    show blockTo z 0 7 * 256 + byteN z (0 + 7) = _
    have : byteN z (0 + 7) = 0 := by simp [byteN, List.getD, List.getElem?_eq_none (show z.length ≤ 7 from hz)]
    omega
  have low : ∀ z : List UInt8, z.length ≤ 7 → (z.length ^^^ blockTo z 0 8) = z.length + blockTo z 0 8 := by
    intro z hz
    rw [last z hz]
    have h8 : z.length < 2 ^ 8 := by omega
    rw [Nat.xor_comm, show blockTo z 0 7 * 256 = 2 ^ 8 * blockTo z 0 7 from Nat.mul_comm _ _, Nat.add_comm]
    have ho := Nat.two_pow_add_eq_or_of_lt h8 (blockTo z 0 7)
    rw [ho]
    refine Nat.eq_of_testBit_eq fun i => ?_
    rw [Nat.testBit_xor, Nat.testBit_or, Nat.testBit_two_pow_mul]
    rcases Nat.lt_or_ge i 8 with hi | hi
    · simp [Nat.not_le.2 hi]
    · rw [Nat.testBit_lt_two_pow (Nat.lt_of_lt_of_le h8 (Nat.pow_le_pow_right (by decide) hi))]
      simp
  rw [low l hl, low m hm, last l hl, last m hm] at h2
  have h3 : l.length = m.length := by omega
  have h4 : blockTo l 0 7 = blockTo m 0 7 := by omega
  refine eq_of_bytes l m h3 fun i hi => ?_
  have := blockTo_bytes l m 0 0 7 h4 i (by omega)
  simpa using this

end Go.Proofs.YtapnakfhkdcfeaaGreatDoor.Dg

set_option linter.unusedVariables false
set_option linter.unusedSimpArgs false
namespace Go.Proofs.YtapnakfhkdcfeaaGreatDoor.Dg
open Go.RowKit

theorem tz_key : IntKind.u64.wrap (bits BinOp.and IntKind.u64 16 (IntKind.u64.wrap (-16)) * 285870213051353865) / 288230376151711744 = 15 := by decide +kernel

set_option maxHeartbeats 400000 in
theorem tz64_16 (w : World) (hc : w.cell? ⟨5, 15, none⟩ = some (.int .u8 4)) :
    Calls Tryz.prog 109 #[.int .u64 16] w fun e w' => e = .returned (.int .i64 4) ∧ w = w' := by
  have key := tz_key
  go_enter Tryz.func109, Tryz.ntmps109
  go_wp2_with (simp only [key])
  go_ret
  exact ⟨rfl, rfl⟩

set_option maxHeartbeats 400000 in
theorem tz_16 (w : World) (hc : w.cell? ⟨5, 15, none⟩ = some (.int .u8 4)) :
    Calls Tryz.prog 102 #[.int .u64 16] w fun e w' => e = .returned (.int .i64 4) ∧ w = w' := by
  go_enter Tryz.func102, Tryz.ntmps102
  go_wp2_with (go_at_call 109; refine (tz64_16 _ hc).mono ?_; rintro e w' ⟨rfl, rfl⟩)
  go_ret
  exact ⟨rfl, rfl⟩

theorem pow_key : (bits BinOp.and IntKind.i64 16 15 == 0) = true := by decide +kernel
set_option maxHeartbeats 400000 in
theorem ispow_16 (w : World) :
    Calls Tryz.prog 101 #[.int .i64 16] w fun e w' => e = .returned (.bool true) ∧ w = w' := by
  have key := pow_key
  go_enter Tryz.func101, Tryz.ntmps101
  go_wp2
  go_ret
  exact ⟨rfl, rfl⟩

end Go.Proofs.YtapnakfhkdcfeaaGreatDoor.Dg

set_option linter.unusedVariables false
set_option linter.unusedSimpArgs false
namespace Go.Proofs.YtapnakfhkdcfeaaGreatDoor.Dg
open Go.RowKit

/-- The first k bytes of a block, as a number. -/
def accN (c : List Nat) : Nat → Nat
  | 0 => 0
  | k + 1 => accN c k * 256 + c.getD k 0
theorem accN_lt (c : List Nat) (hc : ∀ k, c.getD k 0 < 256) : ∀ k, accN c k < 256 ^ k
  | 0 => by simp [accN]
  | k + 1 => by
    have := accN_lt c hc k
    have := hc k
    simp only [accN, Nat.pow_succ]
    omega
theorem accN_le (c : List Nat) (hc : ∀ k, c.getD k 0 < 256) (k : Nat) (hk : k < 8) : accN c k < 72057594037927936 :=
  Nat.lt_of_lt_of_le (accN_lt c hc k) (show 256 ^ k ≤ 256 ^ 7 from Nat.pow_le_pow_right (by decide) (by omega))

theorem ofInt64 (u : Nat) (hu : u < 18446744073709551616) : (BitVec.ofInt 64 (u : Int)).toNat = u := by
  rw [BitVec.ofInt_natCast, BitVec.toNat_ofNat]; exact Nat.mod_eq_of_lt (by omega)
theorem wrap_u64 (n : Int) : IntKind.u64.wrap n = n % 18446744073709551616 := by simp [IntKind.wrap, IntKind.bits, IntKind.signed]
theorem xorN (a b : Nat) (ha : a < 18446744073709551616) (hb : b < 18446744073709551616) : bits BinOp.xor IntKind.u64 (a : Int) (b : Int) = ((a ^^^ b : Nat) : Int) := by
  show IntKind.u64.wrap ((BitVec.ofInt 64 (a : Int) ^^^ BitVec.ofInt 64 (b : Int)).toNat : Int) = _
  have := xor_lt a b ha hb
  rw [BitVec.toNat_xor, ofInt64 a ha, ofInt64 b hb, wrap_u64]
  omega
theorem orN (a b : Nat) (ha : a < 72057594037927936) (hb : b < 256) : bits BinOp.or IntKind.u64 ((a : Int) * 256) (b : Int) = ((a * 256 + b : Nat) : Int) := by
  have e : (a : Int) * 256 = ((a * 256 : Nat) : Int) := by omega
  rw [e]
  show IntKind.u64.wrap ((BitVec.ofInt 64 ((a * 256 : Nat) : Int) ||| BitVec.ofInt 64 (b : Int)).toNat : Int) = _
  have ho := Nat.two_pow_add_eq_or_of_lt (i := 8) (b := b) hb a
  rw [BitVec.toNat_or, ofInt64 _ (by omega), ofInt64 b (by omega), show a * 256 = 2 ^ 8 * a from Nat.mul_comm _ _, ← ho, wrap_u64]
  omega
theorem divN (a k : Nat) : ((a : Int) / (k : Int)) = ((a / k : Nat) : Int) := by simp
theorem mulN (a c : Nat) : IntKind.u64.wrap ((a : Int) * (c : Int)) = ((a * c % 18446744073709551616 : Nat) : Int) := by rw [wrap_u64]; simp

/-- The mixing as the code spells it. -/
def mixI (x : Int) : Int :=
  bits BinOp.xor IntKind.u64 (IntKind.u64.wrap (bits BinOp.xor IntKind.u64 (IntKind.u64.wrap (bits BinOp.xor IntKind.u64 x (x / 2147483648) * 14029467366897019727)) (IntKind.u64.wrap (bits BinOp.xor IntKind.u64 x (x / 2147483648) * 14029467366897019727) / 134217728) * 11400714785074694791))
    (IntKind.u64.wrap (bits BinOp.xor IntKind.u64 (IntKind.u64.wrap (bits BinOp.xor IntKind.u64 x (x / 2147483648) * 14029467366897019727)) (IntKind.u64.wrap (bits BinOp.xor IntKind.u64 x (x / 2147483648) * 14029467366897019727) / 134217728) * 11400714785074694791) / 8589934592)

theorem mixI_eq (x : Nat) (hx : x < 18446744073709551616) : mixI (x : Int) = ((mixN x : Nat) : Int) := by
  have div : ∀ z k : Nat, z < 18446744073709551616 → z / k < 18446744073709551616 := fun z k hz => Nat.lt_of_le_of_lt (Nat.div_le_self _ _) hz
  have md : ∀ z : Nat, z % 18446744073709551616 < 18446744073709551616 := fun z => Nat.mod_lt _ (by decide)
  have e1 : bits BinOp.xor IntKind.u64 (x : Int) ((x : Int) / 2147483648) = ((x ^^^ (x / 2147483648) : Nat) : Int) := by
    rw [show ((x : Int) / 2147483648) = ((x / 2147483648 : Nat) : Int) from divN x 2147483648, xorN x _ hx (div _ _ hx)]
  have e2 : IntKind.u64.wrap (bits BinOp.xor IntKind.u64 (x : Int) ((x : Int) / 2147483648) * 14029467366897019727) = (((x ^^^ (x / 2147483648)) * 14029467366897019727 % 18446744073709551616 : Nat) : Int) := by
    rw [e1]; exact mulN _ 14029467366897019727
  have e3 : ∀ z : Nat, z < 18446744073709551616 → IntKind.u64.wrap (bits BinOp.xor IntKind.u64 (z : Int) ((z : Int) / 134217728) * 11400714785074694791) = (((z ^^^ (z / 134217728)) * 11400714785074694791 % 18446744073709551616 : Nat) : Int) := by
    intro z hz
    rw [show ((z : Int) / 134217728) = ((z / 134217728 : Nat) : Int) from divN z 134217728, xorN z _ hz (div _ _ hz)]; exact mulN _ 11400714785074694791
  have e4 : ∀ z : Nat, z < 18446744073709551616 → bits BinOp.xor IntKind.u64 (z : Int) ((z : Int) / 8589934592) = ((z ^^^ (z / 8589934592) : Nat) : Int) := by
    intro z hz
    rw [show ((z : Int) / 8589934592) = ((z / 8589934592 : Nat) : Int) from divN z 8589934592, xorN z _ hz (div _ _ hz)]
  unfold mixI
  rw [e2, e3 _ (md _), e4 _ (md _)]
  rfl

/-- A state in memory. -/
def StAt (b x : Nat) (w : World) : Prop := w.heap[b]? = some (.cells #[.int .u64 (x : Int)] 71 (0, 0))
theorem StAt.lt {b x : Nat} {w : World} (h : StAt b x w) : b < w.heap.size := (Array.getElem?_eq_some_iff.1 h).1
theorem StAt.cell {b x : Nat} {w : World} (h : StAt b x w) : w.cell? ⟨b, 0, none⟩ = some (.int .u64 (x : Int)) := by rw [Lib.cell_of_heap h]; rfl
theorem StAt.frozen {b x : Nat} {w : World} (h : StAt b x w) : w.frozen? ⟨b, 0, none⟩ = false := Lib.frozen_of_heap h 0
theorem StAt.alloc {b x : Nat} {w : World} (h : StAt b x w) (o : Obj) : StAt b x (w.alloc o) := by
  unfold StAt; rw [Below.heap_alloc w o b h.lt]; exact h
theorem StAt.set {b x y : Nat} {w : World} (h : StAt b x w) : StAt b y (w.setCell ⟨b, 0, none⟩ (.int .u64 (y : Int))) := by
  unfold StAt at h ⊢
  simp [World.setCell, Array.getElem?_modify, h]

/-- What a call of take leaves. -/
def Took (b x : Nat) (w : World) (e : Ending) (w' : World) : Prop := e = .returned (.tuple #[]) ∧ StAt b x w' ∧ Below b w w'

set_option maxHeartbeats 1000000 in
set_option maxRecDepth 100000 in
theorem take_calls (b s : Nat) (hs : s < 18446744073709551616) (c : List Nat) (hl : c.length = 8) (hc : ∀ k, c.getD k 0 < 256) (w : World) (hst : StAt b s w) :
    Calls Tryz.prog 62 #[.pointer (some ⟨b, 0, none⟩), .agg (c.map fun z : Nat => Value.int .u8 (z : Int)).toArray] w (Took b (mixN (s ^^^ accN c 8)) w) := by
  have HST := Lib.hid hst
  have HL := Lib.hid hl
  have HC := Lib.hid hc
  have hsz : (c.map fun z : Nat => Value.int .u8 (z : Int)).toArray.size = 8 := by simp [hl]
  obtain ⟨C, hC⟩ : ∃ C, (c.map fun z : Nat => Value.int .u8 (z : Int)).toArray = C := ⟨_, rfl⟩
  have hcell : ∀ k, k < 8 → (w.alloc (.cells C 89)).cell? ⟨w.heap.size, k, none⟩ = some (.int .u8 ((c.getD k 0 : Nat) : Int)) := by
    intro k hk
    rw [World.cell?_alloc_new, ← hC, List.getElem?_toArray, List.getElem?_map, List.getElem?_eq_getElem (by omega)]
    simp [List.getD, List.getElem?_eq_getElem (show k < c.length by omega)]
  have h1 := (hst.alloc (.cells C 89)).cell
  have h2 := (hst.alloc (.cells C 89)).frozen
  rw [hC] at hsz ⊢
  have HCELL := Lib.hid hcell
  clear hcell hC hst hl hc
  go_enter Tryz.func62, Tryz.ntmps62
  go_wp2
  go_loop [4, 7] (fun vn vk => ∃ k : Nat, k ≤ 8 ∧ vk = .int .i64 k ∧ vn = .int .u64 ((accN c k : Nat) : Int)) (fun _ vk => (8 - RowKit.intOf vk).toNat)
  case atStart => exact ⟨0, by omega, rfl, rfl⟩
  case round =>
    obtain ⟨k, hk, rfl, hn⟩ := hrel
    by_cases hlt : k < 8
    · have hc0 := HCELL.out k hlt
      have hck := HC.out k
      have hak := accN_le c HC.out k hlt
      have hor := orN (accN c k) (c.getD k 0) hak hck
      obtain ⟨a1, hs1⟩ : ∃ a, accN c k * 256 + c.getD k 0 = a := ⟨_, rfl⟩
      have HA := Lib.hid (show accN c (k + 1) = a1 from hs1)
      generalize accN c k = a0 at *
      generalize c.getD k 0 = ck at *
      subst hn
      rw [hs1] at hor
      have HS1 := Lib.hid hs1
      clear hs1
      go_wp2
      go_round
      case rel => exact ⟨k + 1, by omega, by go_num, by rw [HA.out]⟩
      case measure => simp [RowKit.intOf]; omega
    · obtain rfl : k = 8 := by omega
      have hN : accN c 8 < 18446744073709551616 := accN_lt c HC.out 8
      have hx := xorN s (accN c 8) hs hN
      have HX := Lib.hid (mixI_eq (s ^^^ accN c 8) (xor_lt _ _ hs hN))
      generalize accN c 8 = n at *
      subst hn
      go_wp2
      go_end0
      show Took b _ w _ ((w.alloc (.cells C 89)).setCell ⟨b, 0, none⟩ (.int .u64 (mixI ((s ^^^ n : Nat) : Int))))
      rw [HX.out]
      exact ⟨rfl, (HST.out.alloc _).set, ((Below.refl _ _).alloc (Nat.le_of_lt HST.out.lt) _).setCell (Nat.le_refl _) _⟩

end Go.Proofs.YtapnakfhkdcfeaaGreatDoor.Dg

set_option linter.unusedVariables false
set_option linter.unusedSimpArgs false
namespace Go.Proofs.YtapnakfhkdcfeaaGreatDoor.Dg
open Go.RowKit Go.Sort Go.Lib

abbrev encB : UInt8 → Value := fun b => Value.int .u8 (b.toNat : Int)
def digs : ByteArray := ⟨#[48, 49, 50, 51, 52, 53, 54, 55, 56, 57, 97, 98, 99, 100, 101, 102, 103, 104, 105, 106, 107, 108, 109, 110, 111, 112, 113, 114, 115, 116, 117, 118, 119, 120, 121, 122]⟩
theorem digs_at : ∀ i, i < 16 → digs.data.toList.getD i 0 = hexd i := by decide
theorem digs_size : digs.size = 36 := rfl

theorem idx_digs {P : Program} (t : TypeId) (ht : P.underlying t = some .string) (k : IntKind) (z : Int) (i : Nat) (hz : z = (i : Int)) (hi : i < 16) (w : World) :
    (Instr.index t (.string digs) (.int k z)).run P w = .ok (.int .u8 ((hexd i).toNat : Int)) w := by
  subst hz
  rw [run_index_string w t digs k _ ht, dif_pos ⟨by omega, by rw [digs_size]; omega⟩]
  have e : ((i : Int)).toNat = i := by omega
  simp only [e]
  rw [getD_at digs i (by rw [digs_size]; omega), digs_at i hi]

theorem and15 (u : Nat) (hu : u < 18446744073709551616) : bits BinOp.and IntKind.u64 (u : Int) 15 = ((u % 16 : Nat) : Int) := by
  have h1 : (BitVec.ofInt 64 (u : Int)).toNat = u := by
    rw [BitVec.ofInt_natCast, BitVec.toNat_ofNat]; exact Nat.mod_eq_of_lt (by omega)
  have h3 : u &&& 15 = u % 16 := Nat.and_two_pow_sub_one_eq_mod u 4
  show IntKind.u64.wrap ((BitVec.ofInt 64 (u : Int) &&& BitVec.ofInt 64 15).toNat : Int) = _
  rw [BitVec.toNat_and, h1, show (BitVec.ofInt 64 15).toNat = 15 from rfl, h3]
  simp only [IntKind.wrap, IntKind.bits, IntKind.signed]
  simp
  omega

theorem hexTo_head (j : Nat) : ∀ n, hexTo n (j + 1) = hexd (n / 16 ^ j % 16) :: hexTo n j := by
  induction j with
  | zero => intro n; simp [hexTo]
  | succ j ih =>
    intro n
    rw [hexTo, ih (n / 16)]
    rw [show hexTo n (j + 1) = hexTo (n / 16) j ++ [hexd (n % 16)] from rfl]
    rw [Nat.div_div_eq_div_mul, ← Nat.pow_succ']
    rfl

/-- What the buffer holds when j digits have been written. -/
structure FmtB (n j u i : Nat) (dk : Array UInt8) : Prop where
  size : dk.size = 65
  u_eq : u = n / 16 ^ j
  i_eq : i + j = 65
  le : j ≤ 15
  tail : dk.toList.drop i = hexTo n j

theorem FmtB.start (n : Nat) : FmtB n 0 n 65 (Array.replicate 65 0) := ⟨by simp, by simp, rfl, by omega, by simp [hexTo]⟩

theorem FmtB.tail_set {n j u i : Nat} {dk : Array UInt8} (h : FmtB n j u (i + 1) dk) : (dk.setIfInBounds i (hexd (u % 16))).toList.drop i = hexTo n (j + 1) := by
  have hs := h.size
  have hi := h.i_eq
  have hl : i < dk.toList.length := by simp; omega
  rw [hexTo_head, ← h.u_eq, ← h.tail, Array.toList_setIfInBounds, List.drop_set]
  rw [if_neg (by omega), Nat.sub_self, List.drop_eq_getElem_cons hl]
  rfl

theorem FmtB.step {n j u i : Nat} {dk : Array UInt8} (hn : n < 18446744073709551616) (h : FmtB n j u (i + 1) dk) (hu : 16 ≤ u) : FmtB n (j + 1) (u / 16) i (dk.setIfInBounds i (hexd (u % 16))) where
  size := by simp [h.size]
  u_eq := by rw [h.u_eq, Nat.div_div_eq_div_mul, ← Nat.pow_succ]
  i_eq := by have := h.i_eq; omega
  le := by
    rcases Nat.lt_or_ge j 15 with hj | hj
    · omega
    · have h15 : j = 15 := by have := h.le; omega
      have := h.u_eq
      rw [h15] at this
      omega
  tail := h.tail_set

theorem world_set (w : World) (o : Obj) (dk : Array UInt8) (i : Nat) (x : UInt8) (hi : i < dk.size) :
    (putRow encB (w.alloc o) w.heap.size 0 dk).setCell ⟨w.heap.size, i, none⟩ (.int .u8 (x.toNat : Int)) = putRow encB (w.alloc o) w.heap.size 0 (dk.setIfInBounds i x) := by
  rw [← putRow_set encB (w.alloc o) w.heap.size 0 dk i x hi, Nat.zero_add]

theorem holds65 (w : World) (T : TypeId) : Holds encB (w.alloc (.cells Tryz.zeroCells114 T)) w.heap.size 0 (Array.replicate 65 (0 : UInt8)) := fun j hj => by
  have hj' : j < 65 := by simpa using hj
  refine ⟨?_, World.frozen?_alloc_new _ _ _ _⟩
  have e : Tryz.zeroCells114 = Array.replicate 65 (.int .u8 0) := by kernel_rfl
  rw [World.cell?_alloc_new, e, Array.getElem?_replicate, if_pos (by omega), getElem!_pos _ j hj]
  simp

theorem below_mapBlock {α : Type} [Inhabited α] {enc : α → Value} {B : Nat} {w0 w : World} {g off : Nat} {d : Array α} (h : Below B w0 w) (hg : B ≤ g) : Below B w0 (putRow enc w g off d) :=
  ⟨h.os, h.tape, h.output, by simpa [putRow, mapBlock] using h.size, fun k hk => by
    rw [← h.block k hk]
    simp [putRow, mapBlock, Array.getElem?_modify, show g ≠ k by omega]⟩

/-- What formatBits leaves. -/
def Hex16 (n : Nat) (w : World) (e : Ending) (w' : World) : Prop :=
  ∃ j : Nat, 1 ≤ j ∧ j ≤ 16 ∧ n < 16 ^ j ∧ e = .returned (.tuple #[.slice none 0 0, .string ⟨(hexTo n j).toArray⟩]) ∧ Below w.heap.size w w'

set_option maxHeartbeats 1000000 in
set_option maxRecDepth 100000 in
theorem fmtBits16 (n : Nat) (hn : n < 18446744073709551616) (w : World) (hc : w.cell? ⟨5, 15, none⟩ = some (.int .u8 4)) (hg : 5 < w.heap.size) :
    Calls Tryz.prog 90 #[.slice none 0 0, .int .u64 n, .int .i64 16, .bool false, .bool false] w (Hex16 n w) := by
  have hH := Lib.hid (holds65 w 114)
  have hc1 : ∀ o, (w.alloc o).cell? ⟨5, 15, none⟩ = some (.int .u8 4) := fun o => by
    rw [World.cell?_alloc_old _ _ _ (Nat.ne_of_lt hg)]; exact hc
  go_enter Tryz.func90, Tryz.ntmps90
  go_wp2_with (first | (go_at_call 101; refine (ispow_16 _).mono ?_; rintro e w' ⟨rfl, rfl⟩) | (go_at_call 102; refine (tz_16 _ (hc1 _)).mono ?_; rintro e w' ⟨rfl, rfl⟩))
  clear hc1 hc hg
  go_name_bytes DG hDG
  have eDG : DG = digs := by rw [← hDG]; decide +kernel
  subst eDG
  clear hDG
  go_loopw [1, 13] (fun vu vi wr => ∃ (j u i : Nat) (dk : Array UInt8), vu = .int .u64 u ∧ vi = .int .i64 i ∧ wr = putRow encB (w.alloc (.cells Tryz.zeroCells114 114)) w.heap.size 0 dk ∧ u ≤ n ∧ Hid (FmtB n j u i dk)) (fun vu _ _ => (RowKit.intOf vu).toNat)
  case atStart => exact ⟨0, n, 65, Array.replicate 65 0, rfl, rfl, (putRow_self _ _ _ _ _ hH.out).symm, Nat.le_refl _, FmtB.start n⟩
  case round =>
    obtain ⟨j, u, i, dk, rfl, rfl, hw0, hun, HI⟩ := hrel
    obtain ⟨i, rfl⟩ : ∃ m, i = m + 1 := ⟨i - 1, by have := HI.out.i_eq; have := HI.out.le; omega⟩
    rename World => W0
    have hi65 : i < 65 := by have := HI.out.i_eq; omega
    have hH0 : Holds encB W0 w.heap.size 0 dk := by rw [hw0]; exact holds_putRow _ _ _ _ _ dk hH.out (by rw [HI.out.size]; simp)
    obtain ⟨G0, hG0⟩ : ∃ G : Nat → Int, ∀ t, G t = (dk[t]!.toNat : Int) := ⟨_, fun _ => rfl⟩
    have hc0 : W0.cell? ⟨w.heap.size, i, none⟩ = some (.int .u8 (G0 i)) := by
      have := (hH0 i (by rw [HI.out.size]; omega)).1; rw [Nat.zero_add] at this; rw [hG0]; exact this
    have hf0 : W0.frozen? ⟨w.heap.size, i, none⟩ = false := by
      have := (hH0 i (by rw [HI.out.size]; omega)).2; rw [Nat.zero_add] at this; exact this
    have AW0 := Lib.hid hw0
    clear hw0 hG0 hH0
    by_cases hu : 16 ≤ u
    · have hX : ∀ w, (Instr.index 9 (.string digs) (.int .u64 (bits BinOp.and IntKind.u64 (u : Int) 15))).run Tryz.prog w = .ok (.int .u8 ((hexd (u % 16)).toNat : Int)) w :=
        idx_digs 9 Tryz.underlying9 .u64 _ _ (and15 u (by omega)) (Nat.mod_lt _ (by decide))
      go_wp2
      go_roundw
      case rel =>
        refine ⟨j + 1, u / 16, i, dk.setIfInBounds i (hexd (u % 16)), by first | go_num | (congr 1; omega), by first | go_num | (congr 1; omega), by rw [AW0.out]; exact world_set w _ dk i _ (by rw [HI.out.size]; omega), by omega, ?_⟩
        exact HI.out.step hn hu
      case measure => simp [RowKit.intOf]; omega
    · have hX : ∀ w, (Instr.index 9 (.string digs) (.int .u64 (u : Int))).run Tryz.prog w = .ok (.int .u8 ((hexd u).toNat : Int)) w :=
        idx_digs 9 Tryz.underlying9 .u64 _ _ rfl (by omega)
      unfold digs at hX
      have hs65 := HI.out.size
      have hsum := HI.out.i_eq
      have htl := HI.out.tail_set
      have hlast : u % 16 = u := Nat.mod_eq_of_lt (by omega)
      have hsl : ∀ W, (Instr.sliceAt 114 (.pointer (some ⟨w.heap.size, 0, none⟩)) (some (.int .i64 (i : Int))) none none).run Tryz.prog W = .ok (.slice (some ⟨w.heap.size, i, none⟩) (65 - i) (65 - i)) W := fun W => by
        have hal : Tryz.prog.arrayLen 114 = 65 := by simp [Program.arrayLen, Tryz.underlying114]
        rw [run_sliceAt_array_l W 114 ⟨w.heap.size, 0, none⟩ (by simp [Program.arrayLen, Program.elem, Tryz.underlying114]) .i64 (i : Int) (by omega) (by rw [hal]; omega)]
        go_simp
        omega
      have hcv : (convert 58 9 (.slice (some ⟨w.heap.size, i, none⟩) (65 - i) (65 - i))).run Tryz.prog (W0.setCell ⟨w.heap.size, i, none⟩ (.int .u8 ((hexd u).toNat : Int))) = .ok (.string ⟨(hexTo n (j + 1)).toArray⟩) (W0.setCell ⟨w.heap.size, i, none⟩ (.int .u8 ((hexd u).toNat : Int))) := by
        have e := world_set w (.cells Tryz.zeroCells114 114) dk i (hexd u) (by omega)
        rw [AW0.out, e]
        have hlen : (hexTo n (j + 1)).length = 65 - i := by rw [hexTo_length]; omega
        have h := run_convert_bytes_back (P := Tryz.prog) (putRow encB (w.alloc (.cells Tryz.zeroCells114 114)) w.heap.size 0 (dk.setIfInBounds i (hexd u))) 58 9 5 ⟨w.heap.size, i, none⟩ (65 - i) (hexTo n (j + 1)) Tryz.underlying58 Tryz.underlying5 Tryz.underlying9 (fun q hq => by
          rw [Lib.add_plain]
          have hq' : i + q < 65 := by rw [hlen] at hq; omega
          have hcell := cell?_putRow encB (w.alloc (.cells Tryz.zeroCells114 114)) w.heap.size 0 _ (dk.setIfInBounds i (hexd u)) hH.out (by simp [hs65]) (i + q) (by simp [hs65]; omega)
          rw [Nat.zero_add] at hcell
          rw [hcell]
          rw [hlast] at htl
          have : (hexTo n (j + 1))[q] = (dk.setIfInBounds i (hexd u))[i + q]! := by
            rw [getElem!_pos _ _ (by simp [hs65]; omega)]
            have h2 : (hexTo n (j + 1))[q]? = (dk.setIfInBounds i (hexd u)).toList[i + q]? := by rw [← htl, List.getElem?_drop]
            rw [List.getElem?_eq_getElem hq, List.getElem?_eq_getElem (by simp [hs65]; omega)] at h2
            exact (Option.some.inj h2).trans (Array.getElem_toList _)
          rw [this])
        rw [hlen] at h
        exact h
      have hnj : n < 16 ^ (j + 1) := by
        have h1 := HI.out.u_eq
        have : n / 16 ^ j < 16 := by omega
        rw [Nat.pow_succ]
        exact (Nat.div_lt_iff_lt_mul (Nat.pow_pos (by decide))).1 this |> fun h => by rw [Nat.mul_comm] at h; exact h
      have hle := HI.out.le
      have HF := Lib.hid hnj
      have HE := Lib.hid (show W0.setCell ⟨w.heap.size, i, none⟩ (.int .u8 ((hexd u).toNat : Int)) = putRow encB (w.alloc (.cells Tryz.zeroCells114 114)) w.heap.size 0 (dk.setIfInBounds i (hexd u)) by rw [AW0.out]; exact world_set w _ dk i (hexd u) (by omega))
      clear htl hlast hnj hs65 hsum
      go_wp2
      go_ret2
      refine ⟨j + 1, by omega, by omega, HF.out, rfl, ?_⟩
      rw [HE.out]
      exact below_mapBlock (((Below.refl _ _).alloc (Nat.le_refl _) _)) (Nat.le_refl _)

/-- What FormatUint leaves. -/
def Hex16S (n : Nat) (w : World) (e : Ending) (w' : World) : Prop :=
  ∃ j : Nat, 1 ≤ j ∧ j ≤ 16 ∧ n < 16 ^ j ∧ e = .returned (.string ⟨(hexTo n j).toArray⟩) ∧ Below w.heap.size w w'

set_option maxHeartbeats 1000000 in
set_option maxRecDepth 100000 in
theorem fmtUint16_in (n : Nat) (hn : n < 18446744073709551616) (w : World) (hc : w.cell? ⟨5, 15, none⟩ = some (.int .u8 4)) (hg : 5 < w.heap.size) :
    Calls Tryz.prog 77 #[.int .u64 n, .int .i64 16] w (Hex16S n w) := by
  have hf := Lib.hid (fmtBits16 n hn w hc hg)
  clear hc hg
  go_enter Tryz.func77, Tryz.ntmps77
  go_wp2_with (go_at_call 90; refine hf.out.mono ?_; rintro e w' ⟨j, h1, h2, h3, rfl, hb⟩)
  have H3 := Lib.hid h3
  clear h3
  go_wp2
  go_ret
  exact ⟨j, h1, h2, H3.out, rfl, hb⟩

set_option maxHeartbeats 1000000 in
set_option maxRecDepth 100000 in
theorem fmtUint16 (n : Nat) (hn : n < 18446744073709551616) (w : World) (hc : w.cell? ⟨5, 15, none⟩ = some (.int .u8 4)) (hg : 5 < w.heap.size) :
    Calls Tryz.prog 63 #[.int .u64 n, .int .i64 16] w (Hex16S n w) := by
  have hf := Lib.hid (fmtUint16_in n hn w hc hg)
  clear hc hg
  go_enter Tryz.func63, Tryz.ntmps63
  go_wp2_with (go_at_call 77; refine hf.out.mono ?_; rintro e w' ⟨j, h1, h2, h3, rfl, hb⟩)
  have H3 := Lib.hid h3
  clear h3
  go_wp2
  go_ret
  exact ⟨j, h1, h2, H3.out, rfl, hb⟩

end Go.Proofs.YtapnakfhkdcfeaaGreatDoor.Dg

set_option linter.unusedVariables false
set_option linter.unusedSimpArgs false
namespace Go.Proofs.YtapnakfhkdcfeaaGreatDoor.Dg
open Go.RowKit

/-- copy(dst, s), s a string of whatever length, dst the head of a row of its own. -/
theorem run_copy_cut {P : Program} (w : World) (dT sT ty elem : TypeId) (g dLen dCap : Nat) (s : ByteArray) (cur : Array Value) (t : TypeId)
    (hu : P.underlying dT = some (.slice elem)) (hs : (P.info? elem).map (·.size) = some 1) (hg : w.heap[g]? = some (.cells cur t (0, 0))) (hfit : Nat.min s.size dLen ≤ cur.size) :
    (Builtin.copy_ #[dT, sT] ty #[.slice (some ⟨g, 0, none⟩) dLen dCap, .string s]).run P w =
      .ok (goInt (Nat.min s.size dLen)) (w.setRow g (Lib.byteCells (s.data.toList.take (Nat.min s.size dLen)) ++ cur.toList.drop (Nat.min s.size dLen)).toArray) := by
  have hlen : (Lib.byteCells (s.data.toList.take (Nat.min s.size dLen))).length = Nat.min s.size dLen := by
    rw [Lib.byteCells_length, List.length_take, ← Lib.size_eq]; exact Nat.min_eq_left (Nat.min_le_left _ _)
  have hst := run_storeCells_at P g 0 t (Lib.byteCells (s.data.toList.take (Nat.min s.size dLen))) 0 cur w hg (by rw [hlen]; simpa using hfit) (Lib.byteCells_one _)
  have htk : List.take (Nat.min s.size dLen) (List.map (fun b : UInt8 => Value.int IntKind.u8 (b.toNat : Int)) s.data.toList) = Lib.byteCells (s.data.toList.take (Nat.min s.size dLen)) := by
    rw [← List.map_take]; rfl
  rw [hlen] at hst
  simp only [Nat.add_zero, Nat.zero_add, List.take_zero, List.nil_append] at hst
  cases hq : P.info? elem with
  | none => simp [hq] at hs
  | some i =>
    have hi : i.size = 1 := by simpa [hq] using hs
    generalize hm : Nat.min s.size dLen = m at *
    simp [Builtin.copy_, run_underlying hu, Builtin.lenOf, Builtin.firstCells, sizeOf, typeInfo, hq, hm]
    rw [htk, hst]
    simp [Result.andThen]

/-- .. as one step of a region that draws. -/
theorem step_copy_cut {P : Program} {ops : Array Oper} {o : Oper} {a : Act} {w : World} {K : Act → World → Prop} {Q : Exit → Act → World → Prop} {E : Prop}
    (hgd : o.guard = none) (d x : Operand) (dT sT : TypeId) (hop : o.op = Op.call { callee := Callee.builtin Builtin.copy, args := #[d, x], argTypes := #[dT, sT] })
    (elem : TypeId) (hu : P.underlying dT = some (.slice elem)) (hs : (P.info? elem).map (·.size) = some 1)
    (g dLen dCap : Nat) (hd : a.eval d = .slice (some ⟨g, 0, none⟩) dLen dCap) (s : ByteArray) (hx : a.eval x = .string s) (cur : Array Value) (t : TypeId) (hg : w.heap[g]? = some (.cells cur t (0, 0))) (hfit : Nat.min s.size dLen ≤ cur.size)
    (new : Array Value) (hnew : (Lib.byteCells (s.data.toList.take (Nat.min s.size dLen)) ++ cur.toList.drop (Nat.min s.size dLen)).toArray = new)
    (hK : ∀ W : World, W.heap[g]? = some (.cells new t (0, 0)) → w.grownBy W (some g) → K (a.put o.dst (goInt (Nat.min s.size dLen))) W) :
    if Region.wanted o (yielded ops a.tmps) = true then Oper.wp P o a w K Q else E := by
  have hw : Region.wanted o (yielded ops a.tmps) = true := by simp [Region.wanted, hgd]
  rw [if_pos hw]
  have hrun := run_copy_cut (P := P) w dT sT o.type elem g dLen dCap s cur t hu hs hg hfit
  unfold Oper.wp
  simp [execOp, hop, resolve, invoke, builtin, hd, hx, hrun, Result.andThen]
  exact hK _ (by rw [← hnew]; exact setRow_heap w g cur _ t (0, 0) hg) ⟨rfl, rfl, rfl, by simp, fun q _ hq => setRow_other w g q _ (fun e => hq (by rw [e]))⟩

/-- The bytes of the block at a place. -/
def blkL (l : List UInt8) (o : Nat) : List Nat := (List.range 8).map fun i => byteN l (o + i)
theorem blkL_length (l : List UInt8) (o : Nat) : (blkL l o).length = 8 := by simp [blkL]
theorem blkL_at (l : List UInt8) (o i : Nat) (hi : i < 8) : (blkL l o).getD i 0 = byteN l (o + i) := by
  simp [blkL, List.getD, List.getElem?_range hi]
theorem blkL_lt (l : List UInt8) (o i : Nat) : (blkL l o).getD i 0 < 256 := by
  rcases Nat.lt_or_ge i 8 with h | h
  · rw [blkL_at l o i h]; exact byteN_lt _ _
  · simp [List.getD, List.getElem?_eq_none (show (blkL l o).length ≤ i by rw [blkL_length]; exact h)]
theorem acc_blkL (l : List UInt8) (o : Nat) : ∀ k, k ≤ 8 → accN (blkL l o) k = blockTo l o k
  | 0, _ => rfl
  | k + 1, h => by
    simp only [accN, blockTo]
    rw [acc_blkL l o k (by omega), blkL_at l o k (by omega)]

/-- What copy leaves in a block of zeros is the text's block. -/
theorem cells_blk (l : List UInt8) (o : Nat) :
    (Lib.byteCells ((l.drop o).take (Nat.min (l.drop o).length 8)) ++ (List.replicate 8 (Value.int .u8 0)).drop (Nat.min (l.drop o).length 8)).toArray = ((blkL l o).map fun z : Nat => Value.int .u8 (z : Int)).toArray := by
  congr 1
  refine List.ext_getElem? fun i => ?_
  have hm : Nat.min (l.drop o).length 8 ≤ 8 := Nat.min_le_right _ _
  have hlen : (Lib.byteCells ((l.drop o).take (Nat.min (l.drop o).length 8))).length = Nat.min (l.drop o).length 8 := by
    rw [Lib.byteCells_length, List.length_take]; exact Nat.min_eq_left (Nat.min_le_left _ _)
  rcases Nat.lt_or_ge i 8 with h8 | h8
  · have hr : ((blkL l o).map fun z : Nat => Value.int .u8 (z : Int))[i]? = some (Value.int .u8 (byteN l (o + i) : Int)) := by
      simp [blkL, List.getElem?_range h8]
    rw [hr]
    rcases Nat.lt_or_ge i (Nat.min (l.drop o).length 8) with hi | hi
    · have hil : i < (l.drop o).length := Nat.lt_of_lt_of_le hi (Nat.min_le_left _ _)
      have hol : o + i < l.length := by simp at hil; omega
      rw [List.getElem?_append_left (by rw [hlen]; exact hi)]
      simp only [Lib.byteCells, List.getElem?_map, List.getElem?_take, if_pos hi, List.getElem?_drop]
      simp [byteN, List.getD, List.getElem?_eq_getElem hol]
    · have hlo : (l.drop o).length ≤ i := by
        have e : Nat.min (l.drop o).length 8 = min (l.drop o).length 8 := rfl
        rw [e] at hi; omega
      have hol : l.length ≤ o + i := by simp at hlo; omega
      rw [List.getElem?_append_right (by rw [hlen]; exact hi), hlen, List.getElem?_drop]
      rw [show Nat.min (l.drop o).length 8 + (i - Nat.min (l.drop o).length 8) = i by omega, List.getElem?_replicate, if_pos h8]
      simp [byteN, List.getD, List.getElem?_eq_none hol]
  · rw [List.getElem?_eq_none (by rw [List.length_append, hlen]; simp only [List.length_drop, List.length_replicate] at hm ⊢; omega), List.getElem?_eq_none (by simp [blkL]; exact h8)]

/-- What a call of blocks leaves. -/
def Blocked (b x : Nat) (w : World) (e : Ending) (w' : World) : Prop := e = .returned (.tuple #[]) ∧ StAt b x w' ∧ Below b w w'

set_option maxHeartbeats 1000000 in
set_option maxRecDepth 100000 in
theorem blocks_calls (b : Nat) (s : ByteArray) (hsz : s.size ≤ 9223372036854775799) (w : World) (hst : StAt b (stN s.data.toList 0) w) :
    Calls Tryz.prog 61 #[.string s, .func (Fn.func 62) #[.pointer (some ⟨b, 0, none⟩)] #[]] w (Blocked b (stN s.data.toList (s.size / 8 + 1)) w) := by
  have HST := Lib.hid hst
  clear hst
  have HLEN := Lib.hid (show s.data.toList.length < 18446744073709551616 by rw [← Lib.size_eq]; omega)
  go_enter Tryz.func61, Tryz.ntmps61
  go_wp2
  go_loopw [4] (fun vf wr => ∃ (k p : Nat), p ≤ s.size + 8 ∧ vf = .int .i64 (p : Int) ∧ Hid (p = 8 * k) ∧ Hid (StAt b (stN s.data.toList k) wr) ∧ Hid (Below b w wr)) (fun vf _ => (s.size + 16 - RowKit.intOf vf).toNat)
  case atStart => exact ⟨0, 0, by omega, rfl, rfl, HST.out, Below.refl _ _⟩
  case round =>
    obtain ⟨k, p, hp8, rfl, HP, HS, HB⟩ := hrel
    rename World => W0
    by_cases hlt : p ≤ s.size
    · go_wp2_with fail
      have hbW : b < W0.heap.size := HS.out.lt
      have hblk : (Lib.byteCells ((s.extract p s.size).data.toList.take (Nat.min (s.extract p s.size).size 8)) ++ (List.replicate 8 (Value.int .u8 0)).drop (Nat.min (s.extract p s.size).size 8)).toArray = ((blkL s.data.toList p).map fun z : Nat => Value.int .u8 (z : Int)).toArray := by
        have e : (s.extract p s.size).size = (s.data.toList.drop p).length := by rw [Lib.size_eq, Lib.extract_to_end]
        rw [Lib.extract_to_end, e]; exact cells_blk s.data.toList p
      have HBLK := Lib.hid hblk
      clear hblk
      go_region_law (refine step_copy_cut rfl (.tmp 12) (.tmp 15) 58 9 rfl 5 Tryz.underlying58 (by kernel_rfl) W0.heap.size 8 8 (by simp [Act.eval, Act.put]) (s.extract p s.size) (by simp [Act.eval, Act.put]) _ 89 (Go.heap_alloc_new W0 _) (Nat.min_le_right _ _) _ HBLK.out ?_; intro W1 hr1 hg1)
      have hb1 : Below W0.heap.size W0 W1 := (((Below.refl _ _).alloc (Nat.le_refl _) _).drew).grown hg1 (by simp) (fun q hq => by simp at hq; omega)
      have HS1 : Hid (StAt b (stN s.data.toList k) W1) := by show StAt _ _ _; unfold StAt; rw [hb1.block b hbW]; exact HS.out
      have HB1 : Hid (Below b w W1) := HB.out.trans (hb1.mono (Nat.le_of_lt hbW))
      have HX := Lib.hid hb1
      have HR := Lib.hid hr1
      clear hg1 hr1 hb1
      have hinfo : (Tryz.prog.info? 89).map (·.size) = some ((blkL s.data.toList p).map fun z : Nat => Value.int .u8 (z : Int)).toArray.size := by
        rw [List.size_toArray, List.length_map, blkL_length]; kernel_rfl
      have HI := Lib.hid hinfo
      clear hinfo
      go_wp2_with (first
        | (refine wpList_load_row rfl 89 _ rfl W0.heap.size rfl 89 _ (0, 0) _ HR.out Tryz.underlying89 rfl HI.out ?_)
        | (go_at_call 62; refine (take_calls b _ (stN_lt _ HLEN.out k) (blkL s.data.toList p) (blkL_length _ _) (blkL_lt _ _) _ HS1.out).mono ?_; rintro e w' ⟨rfl, hst', hb'⟩; (have HS2 := Lib.hid hst'); (have HB2 := Lib.hid hb'); clear hst' hb'))
      go_roundw
      case rel =>
        refine ⟨k + 1, p + 8, by omega, by first | go_num | (congr 1; omega), by have := HP.out; show p + 8 = 8 * (k + 1); omega, ?_, HB1.out.trans HB2.out⟩
        have e := HS2.out
        rw [acc_blkL _ _ 8 (Nat.le_refl _), HP.out] at e
        exact e
      case measure => simp [RowKit.intOf]; omega
    · have hk : k = s.size / 8 + 1 := by have := HP.out; omega
      subst hk
      go_wp2
      go_end0
      exact ⟨rfl, HS.out, HB.out⟩

end Go.Proofs.YtapnakfhkdcfeaaGreatDoor.Dg

set_option linter.unusedVariables false
set_option linter.unusedSimpArgs false
namespace Go.Proofs.YtapnakfhkdcfeaaGreatDoor.Dg
open Go.RowKit

/-- What the library's tables hold. -/
structure Tabs (w : World) : Prop where
  bruijn : w.cell? ⟨5, 15, none⟩ = some (.int .u8 4)
  pow10 : Lib.TabIs Tryz.prog w "internal/strconv.uint64pow10" .u64 Lib.pow10Tab

theorem g_pow10 : Tryz.prog.globalNamed "internal/strconv.uint64pow10" = some 0 := by kernel_rfl
theorem Tabs.lt_b {w : World} (h : Tabs w) : 5 < w.heap.size := World.block_lt_of_cell? w _ h.bruijn
theorem Tabs.lt_p {w : World} (h : Tabs w) : 0 < w.heap.size := by
  have := h.pow10.cell g_pow10 0 (by decide)
  exact World.block_lt_of_cell? w _ this
theorem Tabs.below {w w' : World} (h : Tabs w) (hb : Below w.heap.size w w') : Tabs w' :=
  ⟨(hb.cell (p := ⟨5, 15, none⟩) h.lt_b).trans h.bruijn, var?_below hb g_pow10 h.lt_p h.pow10⟩

/-- The digest of a text. -/
def sumB (s : ByteArray) : ByteArray := ⟨(sumL s.data.toList).toArray⟩
theorem sumB_data (s : ByteArray) : (sumB s).data.toList = sumL s.data.toList := rfl

theorem repeat_zero : ∀ m, Lib.repeatL [48] m = List.replicate m 48
  | 0 => rfl
  | m + 1 => by rw [List.replicate_succ, ← repeat_zero m]; rfl

theorem sum_join (s z o : ByteArray) (j m : Nat) (hj : sumN s.data.toList < 16 ^ j) (hm : j + m = 16) (hz : z.data.toList = Lib.repeatL [48] m) (ho : o.data.toList = hexTo (sumN s.data.toList) j) : z ++ o = sumB s := by
  have h : (z ++ o).data.toList = (sumB s).data.toList := by
    rw [sumB_data, ByteArray.data_append, Array.toList_append, hz, ho, repeat_zero, hexTo_pad j m _ hj, Nat.add_comm, hm]
    rfl
  cases hzo : z ++ o with
  | mk d =>
    rw [hzo] at h
    cases d with
    | mk l => 
      simp only [sumB_data] at h
      subst h
      rfl

set_option maxHeartbeats 1000000 in
set_option maxRecDepth 100000 in
theorem sum_calls (s : ByteArray) (hs : s.size ≤ 9223372036854775799) (w : World) (hT : Tabs w) :
    Calls Tryz.prog 47 #[.string s] w fun e w' => e = .returned (.string (sumB s)) ∧ Below w.heap.size w w' := by
  obtain ⟨x0, hx0⟩ : ∃ x, stN s.data.toList 0 = x := ⟨_, rfl⟩
  have hx : bits BinOp.xor IntKind.u64 1442695040888963407 (s.size : Int) = (x0 : Int) := by
    have := xorN 1442695040888963407 s.size (by decide) (by omega)
    rw [← hx0]
    unfold stN
    rw [← Lib.size_eq]
    exact this
  have HS0 : Hid (StAt w.heap.size (stN s.data.toList 0) (w.alloc (.cells #[.int .u64 (x0 : Int)] 71))) := by
    show StAt _ _ _
    rw [hx0]; exact heap_alloc_new w _
  have HT := Lib.hid hT
  clear hT hx0
  go_enter Tryz.func47, Tryz.ntmps47
  go_wp2_with fail
  refine (blocks_calls w.heap.size s hs _ HS0.out).mono ?_
  rintro e w1 ⟨rfl, hst1, hb1⟩
  have HB1 : Hid (Below w.heap.size w w1) := ((Below.refl _ _).alloc (Nat.le_refl _) _).trans hb1
  obtain ⟨x, hxe⟩ : ∃ x, stN s.data.toList (s.size / 8 + 1) = x := ⟨_, rfl⟩
  rw [hxe] at hst1
  have hcell := hst1.cell
  have HXE : Hid (sumN s.data.toList = x) := by show sumN _ = x; unfold sumN; rw [← Lib.size_eq]; exact hxe
  have HT1 := Lib.hid (HT.out.below HB1.out)
  clear hst1 hb1 hxe HS0
  go_wp2_with fail
  refine (fmtUint16 x (by rw [← HXE.out]; exact sumN_lt _) w1 HT1.out.bruijn HT1.out.lt_b).mono ?_
  rintro e w2 ⟨j, h1, h2, h3, rfl, hb2⟩
  have HB2 : Hid (Below w.heap.size w w2) := HB1.out.trans (hb2.mono HB1.out.size)
  obtain ⟨o, ho⟩ : ∃ o : ByteArray, (⟨(hexTo x j).toArray⟩ : ByteArray) = o := ⟨_, rfl⟩
  have HO : Hid (o.data.toList = hexTo x j) := by show _ = _; rw [← ho]
  have hos : o.size = j := by rw [Lib.size_eq, HO.out, hexTo_length]
  obtain ⟨m, hm⟩ : ∃ m : Nat, j + m = 16 := ⟨16 - j, by omega⟩
  have hmi : (16 : Int) - (o.size : Int) = (m : Int) := by omega
  have HJM := Lib.hid (And.intro h3 hm)
  have hos16 : o.size ≤ 16 := by omega
  have hm16 : m ≤ 16 := by omega
  rw [ho]
  clear ho hos hm h1 h2 h3 hb2 hcell
  go_wp2_with fail
  have hrep := Tryz.strings_Repeat ⟨#[48]⟩ m w2 (by omega) (by show 1 * m ≤ _; omega)
  obtain ⟨z, hz⟩ : ∃ z : ByteArray, (⟨(Lib.repeatL (⟨#[48]⟩ : ByteArray).data.toList m).toArray⟩ : ByteArray) = z := ⟨_, rfl⟩
  have HZ : Hid (z.data.toList = Lib.repeatL [48] m) := by show _ = _; rw [← hz]
  have hzs : z.size ≤ 16 := by rw [Lib.size_eq, HZ.out, Lib.repeatL_length]; simp; exact hm16
  rw [hz] at hrep
  have HREP := Lib.hid hrep
  clear hrep hz
  refine HREP.out.mono ?_
  rintro e w3 ⟨rfl, hb3⟩
  have HB3 : Hid (Below w.heap.size w w3) := HB2.out.trans (hb3.mono HB2.out.size)
  clear hb3
  go_wp2
  go_ret
  refine ⟨?_, HB3.out⟩
  rw [sum_join s z o j m (by rw [HXE.out]; exact HJM.out.1) HJM.out.2 HZ.out (by rw [HXE.out]; exact HO.out)]
  rfl

end Go.Proofs.YtapnakfhkdcfeaaGreatDoor.Dg

set_option linter.unusedVariables false
set_option linter.unusedSimpArgs false
namespace Go.Proofs.YtapnakfhkdcfeaaGreatDoor.Dg
open Go.RowKit Go.Shelf
open Go.Proofs.YtapnakfhkdcfeaaGreatDoorW.PrintWords

def hexSet : List UInt8 := [48, 49, 50, 51, 52, 53, 54, 55, 56, 57, 97, 98, 99, 100, 101, 102]
/-- Whether a text is a digest. -/
def isB (s : ByteArray) : Bool := s.size == 16 && s.data.toList.all (hexSet.contains ·)

theorem dropWhile_nil {α : Type} (p : α → Bool) : ∀ l : List α, l.dropWhile p = [] ↔ ∀ x ∈ l, p x = true
  | [] => by simp
  | a :: l => by
    rw [List.dropWhile_cons]
    cases h : p a with
    | true => simp [dropWhile_nil p l, h]
    | false => simp [h]
theorem dropWhile_head {α : Type} (p : α → Bool) : ∀ (l : List α) (a : α) (r : List α), l.dropWhile p = a :: r → p a = false
  | [], _, _, h => by simp at h
  | b :: l, a, r, h => by
    rw [List.dropWhile_cons] at h
    cases hb : p b with
    | true => rw [hb] at h; exact dropWhile_head p l a r h
    | false => rw [hb] at h; simp at h; rw [← h.1]; exact hb
theorem trimS_nil (l cs : List UInt8) : Lib.trimS l cs = [] ↔ l.all (cs.contains ·) = true := by
  unfold Lib.trimS Lib.trimLeftS Lib.trimRightS
  rw [dropWhile_nil]
  constructor
  · intro h
    have key : l.reverse.dropWhile (cs.contains ·) = [] := by
      rcases hd : l.reverse.dropWhile (cs.contains ·) with _ | ⟨a, r⟩
      · rfl
      · exfalso
        have h1 := dropWhile_head _ _ _ _ hd
        have h2 := h a (by rw [hd]; simp)
        rw [h1] at h2
        exact absurd h2 (by simp)
    rw [dropWhile_nil] at key
    rw [List.all_eq_true]
    intro x hx
    exact key x (by simpa using hx)
  · intro h x hx
    rw [List.all_eq_true] at h
    refine h x ?_
    have := List.mem_reverse.1 hx
    have := (List.dropWhile_sublist (cs.contains ·) (l := l.reverse)).mem this
    simpa using this

set_option maxHeartbeats 1000000 in
theorem is_calls (s : ByteArray) (w : World) :
    Calls Tryz.prog 32 #[.string s] w fun e w' => e = .returned (.bool (isB s)) ∧ Below w.heap.size w w' := by
  by_cases h16 : s.size = 16
  · have hcon := Any.strings_Trim_laid Tryz.lays160 (by kernel_rfl) s ⟨#[48, 49, 50, 51, 52, 53, 54, 55, 56, 57, 97, 98, 99, 100, 101, 102]⟩ w (by omega) (by decide) (ascii_of_all (by decide))
    change Calls Tryz.prog 56 _ _ (fun e w' => e = .returned (.string ⟨(Lib.trimS s.data.toList hexSet).toArray⟩) ∧ Below w.heap.size w w') at hcon
    obtain ⟨z, hz⟩ : ∃ z : ByteArray, (⟨(Lib.trimS s.data.toList hexSet).toArray⟩ : ByteArray) = z := ⟨_, rfl⟩
    have hzl : z.data.toList = Lib.trimS s.data.toList hexSet := by rw [← hz]
    rw [hz] at hcon
    have HCON := Lib.hid hcon
    clear hcon hz
    have h16b : ((s.size : Int) == 16) = true := by simp; omega
    by_cases hall : s.data.toList.all (hexSet.contains ·) = true
    · have hb : isB s = true := by simp only [isB, hall]; simp [h16]
      have hze : z.toList = [] := by rw [ByteArray.toList_eq, hzl]; exact (trimS_nil _ _).2 hall
      have HB := Lib.hid hb
      clear hall hb hzl h16
      go_enter Tryz.func32, Tryz.ntmps32
      go_wp2_with (go_at_call 56; refine HCON.out.mono ?_; rintro e w1 ⟨rfl, hb1⟩)
      go_ret
      exact ⟨by rw [HB.out]; rfl, hb1⟩
    · have hb : isB s = false := by unfold isB; rw [Bool.eq_false_iff.2 hall, Bool.and_false]
      have hze : ¬ z.toList = [] := by rw [ByteArray.toList_eq, hzl]; exact fun h => hall ((trimS_nil _ _).1 h)
      have hze2 : z.toList.isEmpty = false := by simpa using hze
      have HB := Lib.hid hb
      clear hall hb hzl h16
      go_enter Tryz.func32, Tryz.ntmps32
      go_wp2_with (go_at_call 56; refine HCON.out.mono ?_; rintro e w1 ⟨rfl, hb1⟩)
      go_ret
      exact ⟨by rw [HB.out]; rfl, hb1⟩
  · have hb : isB s = false := by simp [isB, h16]
    have h16b : ((s.size : Int) == 16) = false := by simp; omega
    have HB := Lib.hid hb
    clear hb h16
    go_enter Tryz.func32, Tryz.ntmps32
    go_wp2
    go_ret
    exact ⟨by rw [HB.out]; rfl, Below.refl _ _⟩

/-- One element of a joined text. -/
def piece (s : ByteArray) : List UInt8 := Lib.itoa (s.size : Int) ++ [58] ++ s.data.toList
theorem piece_length (s : ByteArray) : (piece s).length = (Lib.itoa (s.size : Int)).length + 1 + s.size := by
  unfold piece; rw [List.length_append, List.length_append, ← Lib.size_eq]; rfl
/-- The joined text of a list. -/
def joinL (l : List ByteArray) : List UInt8 := l.flatMap piece
def joinB (l : List ByteArray) : ByteArray := ⟨(joinL l).toArray⟩
theorem joinL_take_succ (l : List ByteArray) (k : Nat) (h : k < l.length) : joinL (l.take (k + 1)) = joinL (l.take k) ++ piece l[k] := by
  unfold joinL; rw [List.take_succ_eq_append_getElem h, List.flatMap_append]; simp
theorem joinL_take_le (l : List ByteArray) (k : Nat) : (joinL (l.take k)).length ≤ (joinL l).length := by
  have h : joinL l = joinL (l.take k) ++ joinL (l.drop k) := by unfold joinL; rw [← List.flatMap_append, List.take_append_drop]
  rw [h, List.length_append]; omega

theorem below_grow (w : World) (k : Nat) (os : Array Obj) : Below w.heap.size w (Sort.grow (w.drewN k) os) :=
  ⟨rfl, rfl, rfl, by show w.heap.size ≤ (w.heap ++ os).size; rw [Array.size_append]; omega, fun _ hj => Sort.heap_grow_old (w.drewN k) os hj⟩
theorem builder_below {T e : TypeId} {B b : Nat} {bs : List Value} {w w' : World} (h : Lib.IsBuilder T e B b bs w) (hb : Below w.heap.size w w') : Lib.IsBuilder T e B b bs w' := by
  have one : ∀ p, Lib.BuilderAt T e B b p bs w → Lib.BuilderAt T e B b p bs w' := by
    intro p h
    have hlt := h.lt
    obtain ⟨hB, v, hv, ho, hne⟩ := h
    exact ⟨hB, v, by rw [hb.block b hlt]; exact hv, pw_own_below ho hb, hne⟩
  rcases h with h | h
  · exact .inl (one _ h)
  · exact .inr (one _ h)

def Tryz.laysB_ren : Go.Shelf.Ren := ⟨fun | 167 => 46 | n => Tryz.lays105_ren.f n, Tryz.lays105_ren.t, fun n => n⟩
theorem Tryz.laysB : Go.Proofs.Lays.n167 Tryz.prog Tryz.laysB_ren := { Tryz.lays105 with f167 := Tryz.func46.trans (congrArg some (by kernel_rfl)), f240 := Tryz.lays105.f240, f276 := Tryz.lays105.f276 }
set_option maxRecDepth 100000 in
theorem Tryz.extraB : Builder.Extra Tryz.prog Tryz.laysB_ren := { Tryz.Builder_Extra_105 with }

theorem writeByte (B b : Nat) (bs : List Value) (c : Int) (w : World) (h : Lib.IsBuilder 60 5 B b bs w) (hlen : bs.length + 1 ≤ 140737488355328) (hBw : B ≤ w.heap.size) :
    Calls Tryz.prog 46 #[.pointer (some ⟨b, 0, none⟩), .int .u8 c] w fun e w' => e = .returned .nilIface ∧ Lib.IsBuilder 60 5 B b (bs ++ [.int .u8 c]) w' ∧ Below B w w' :=
  (Any.Builder_WriteByte Tryz.laysB Tryz.extraB B b bs c w h hlen hBw).mono fun _ _ ⟨h1, h2, h3⟩ => ⟨h1, .inr h2, h3⟩
theorem writeString (B b : Nat) (bs : List Value) (s : ByteArray) (w : World) (h : Lib.IsBuilder 60 5 B b bs w) (hlen : bs.length + s.size ≤ 140737488355328) (hBw : B ≤ w.heap.size) :
    Calls Tryz.prog 44 #[.pointer (some ⟨b, 0, none⟩), .string s] w fun e w' => e = .returned (.tuple #[.int .i64 s.size, .nilIface]) ∧ Lib.IsBuilder 60 5 B b (bs ++ Lib.byteCells s.data.toList) w' ∧ Below B w w' :=
  (Any.Builder_WriteString { Tryz.lays105 with } { Tryz.Builder_Extra_105 with } B b bs s w h hlen hBw).mono fun _ _ ⟨h1, h2, h3⟩ => ⟨h1, .inr h2, h3⟩
theorem builderString (B b : Nat) (l : List UInt8) (w : World) (h : Lib.IsBuilder 60 5 B b (Lib.byteCells l) w) (hBw : B ≤ w.heap.size) :
    Calls Tryz.prog 48 #[.pointer (some ⟨b, 0, none⟩)] w fun e w' => e = .returned (.string ⟨l.toArray⟩) ∧ Below B w w' :=
  Any.Builder_String_any { Tryz.lays105 with } { Tryz.Builder_Extra_105 with } B b l w h hBw

set_option maxHeartbeats 2000000 in
set_option maxRecDepth 100000 in
theorem list_calls (A : Option Addr) (c : Nat) (l : List ByteArray) (w : World) (hr : Kd.C Kd.string w A l.length l) (hc : l.length ≤ c) (hj : (joinL l).length ≤ 140737488355328) (hT : Tabs w) :
    Calls Tryz.prog 19 #[.slice A l.length c] w fun e w' => e = .returned (.string (sumB (joinB l))) ∧ Below w.heap.size w w' := by
  have HR := Lib.hid hr
  have HJ := Lib.hid hj
  have HT := Lib.hid hT
  have hm : l.length ≤ 9223372036854775807 := hr.2.1
  clear hr hj hT
  go_enter Tryz.func19, Tryz.ntmps19
  go_wp2
  go_loopw [8] (fun v8 wr => ∃ k : Nat, k ≤ l.length ∧ v8 = .int .i64 k ∧ Hid (Lib.IsBuilder 60 5 w.heap.size w.heap.size (Lib.byteCells (joinL (l.take k))) wr) ∧ Hid (Below w.heap.size w wr)) (fun v8 _ => (l.length - RowKit.intOf v8).toNat)
  case atStart => exact ⟨0, Nat.zero_le _, rfl, Lib.fresh_isBuilder _ _ w, (Below.refl _ _).alloc (Nat.le_refl _) _⟩
  case round =>
    obtain ⟨k, hk, rfl, HBu, HB⟩ := hrel
    rename World => W0
    by_cases hlt : k < l.length
    · obtain ⟨ad, rfl, hcell⟩ := Kd.at_string (Kd.C_below HR.out HB.out) (k : Int) (by omega) (by omega)
      have hel : Go.Proofs.YtapnakfhkdcfeaaGreatDoorW.PrintWords.rdOf ByteArray.empty l (k : Int) = l[k] := by
        simp [Go.Proofs.YtapnakfhkdcfeaaGreatDoorW.PrintWords.rdOf, List.getD, List.getElem?_eq_getElem hlt]
      rw [hel, Int.toNat_natCast] at hcell
      have hp := joinL_take_succ l k hlt
      have hle := Nat.le_trans (joinL_take_le l (k + 1)) HJ.out
      obtain ⟨x, hx⟩ : ∃ x : ByteArray, l[k] = x := ⟨_, rfl⟩
      rw [hx] at hcell hp
      obtain ⟨L0, hL0⟩ : ∃ L0, joinL (l.take k) = L0 := ⟨_, rfl⟩
      have hlen : L0.length + (Lib.itoa (x.size : Int)).length + 1 + x.size ≤ 140737488355328 := by
        have h1 : (joinL (l.take (k + 1))).length = L0.length + (piece x).length := by
          rw [hp, hL0, List.length_append]
        rw [piece_length] at h1
        omega
      have HP := Lib.hid (show joinL (l.take (k + 1)) = L0 ++ Lib.itoa (x.size : Int) ++ [58] ++ x.data.toList by rw [hp, hL0]; simp [piece])
      have HLEN := Lib.hid hlen
      have hxs : x.size ≤ 140737488355328 := by omega
      have HBu0 : Hid (Lib.IsBuilder 60 5 w.heap.size w.heap.size (Lib.byteCells L0) W0) := by rw [← hL0]; exact HBu.out
      clear hp hle hlen hel hx hL0 HBu
      go_wp2_with fail
      have hT0 := HT.out.below HB.out
      refine (Tryz.strconv_Itoa (x.size : Int) (by omega) (by omega) W0 hT0.pow10).mono ?_
      rintro e w1 ⟨rfl, k1, os1, rfl⟩
      obtain ⟨w1, hw1⟩ : ∃ w1 : World, Sort.grow (W0.drewN k1) os1 = w1 := ⟨_, rfl⟩
      have hb1 : Below W0.heap.size W0 w1 := by rw [← hw1]; exact below_grow W0 k1 os1
      rw [hw1]
      obtain ⟨d, hd⟩ : ∃ d : ByteArray, (⟨(Lib.itoa (x.size : Int)).toArray⟩ : ByteArray) = d := ⟨_, rfl⟩
      rw [hd]
      have HD : Hid (d.data.toList = Lib.itoa (x.size : Int)) := by show _ = _; rw [← hd]
      have hds : d.size = (Lib.itoa (x.size : Int)).length := by rw [Lib.size_eq, HD.out]
      have HB1 : Hid (Below w.heap.size w w1) := HB.out.trans (hb1.mono HB.out.size)
      have HBu1 : Hid (Lib.IsBuilder 60 5 w.heap.size w.heap.size (Lib.byteCells L0) w1) := builder_below HBu0.out hb1
      have HL1 := Lib.hid (show (Lib.byteCells L0).length + d.size ≤ 140737488355328 by have := HLEN.out; rw [Lib.byteCells_length, hds]; omega)
      have HL2 := Lib.hid (show (Lib.byteCells L0 ++ Lib.byteCells d.data.toList).length + 1 ≤ 140737488355328 by have := HLEN.out; rw [List.length_append, Lib.byteCells_length, Lib.byteCells_length, HD.out]; omega)
      have HL3 := Lib.hid (show (Lib.byteCells L0 ++ Lib.byteCells d.data.toList ++ [Value.int .u8 58]).length + x.size ≤ 140737488355328 by have := HLEN.out; rw [List.length_append, List.length_append, Lib.byteCells_length, Lib.byteCells_length, HD.out]; simp; omega)
      clear hw1 hb1 hd hds hT0 hcell
      go_wp2_with fail
      refine (writeString w.heap.size w.heap.size _ d w1 HBu1.out HL1.out HB1.out.size).mono ?_
      rintro e w2 ⟨rfl, hbu2, hb2⟩
      have HBu2 := Lib.hid hbu2
      have HB2 : Hid (Below w.heap.size w w2) := HB1.out.trans hb2
      clear hbu2 hb2
      go_wp2_with fail
      refine (writeByte w.heap.size w.heap.size _ 58 w2 HBu2.out HL2.out HB2.out.size).mono ?_
      rintro e w3 ⟨rfl, hbu3, hb3⟩
      have HBu3 := Lib.hid hbu3
      have HB3 : Hid (Below w.heap.size w w3) := HB2.out.trans hb3
      clear hbu3 hb3
      go_wp2_with fail
      refine (writeString w.heap.size w.heap.size _ x w3 HBu3.out HL3.out HB3.out.size).mono ?_
      rintro e w4 ⟨rfl, hbu4, hb4⟩
      have HBu4 := Lib.hid hbu4
      have HB4 : Hid (Below w.heap.size w w4) := HB3.out.trans hb4
      clear hbu4 hb4
      go_wp2_with fail
      go_roundw
      case rel =>
        refine ⟨k + 1, by omega, by go_num, ?_, HB4.out⟩
        have h := HBu4.out
        rw [HD.out, show [Value.int .u8 58] = Lib.byteCells [58] from rfl, ← Lib.byteCells_append, ← Lib.byteCells_append, ← Lib.byteCells_append, ← HP.out] at h
        exact h
      case measure => simp [RowKit.intOf]; omega
    · obtain rfl : k = l.length := by omega
      have HBu1 : Hid (Lib.IsBuilder 60 5 w.heap.size w.heap.size (Lib.byteCells (joinL l)) W0) := by
        have h := HBu.out; rw [List.take_length] at h; exact h
      clear HBu
      go_wp2_with fail
      refine (builderString w.heap.size w.heap.size _ W0 HBu1.out HB.out.size).mono ?_
      rintro e w1 ⟨rfl, hb1⟩
      have HB1 : Hid (Below w.heap.size w w1) := HB.out.trans hb1
      have HT1 := Lib.hid (HT.out.below HB1.out)
      obtain ⟨j, hj⟩ : ∃ j : ByteArray, joinB l = j := ⟨_, rfl⟩
      have hjs : j.size ≤ 140737488355328 := by rw [← hj, Lib.size_eq]; exact HJ.out
      have HJE := Lib.hid hj
      rw [show (⟨(joinL l).toArray⟩ : ByteArray) = j from hj]
      clear hb1 hj
      go_wp2_with fail
      refine (sum_calls j (by omega) w1 HT1.out).mono ?_
      rintro e w2 ⟨rfl, hb2⟩
      have HB2 : Hid (Below w.heap.size w w2) := HB1.out.trans (hb2.mono HB1.out.size)
      clear hb2
      go_wp2
      go_ret
      exact ⟨by rw [HJE.out]; rfl, HB2.out⟩

end Go.Proofs.YtapnakfhkdcfeaaGreatDoor.Dg

set_option linter.unusedVariables false
set_option linter.unusedSimpArgs false
namespace Go.Proofs.YtapnakfhkdcfeaaGreatDoor.Dg
open Go.RowKit
open Go.Proofs.YtapnakfhkdcfeaaGreatDoorW.PrintWords

def digest_Sum.f (a0 : ByteArray) : Option ByteArray := if a0.size ≤ 9223372036854775799 then some (sumB a0) else none
theorem digest_Sum.calls (a0 : ByteArray) (r : ByteArray) (w : World) (hT : Tabs w) (h : digest_Sum.f a0 = some r) :
    Calls Tryz.prog 47 #[.string a0] w fun e w' => e = .returned (.string r) ∧ Below w.heap.size w w' := by
  unfold digest_Sum.f at h
  split at h
  · rename_i hs
    obtain rfl := Option.some.inj h
    exact sum_calls a0 hs w hT
  · exact absurd h (by simp)

def digest_Is.f (a0 : ByteArray) : Option Bool := some (isB a0)
theorem digest_Is.calls (a0 : ByteArray) (r : Bool) (w : World) (h : digest_Is.f a0 = some r) :
    Calls Tryz.prog 32 #[.string a0] w fun e w' => e = .returned (.bool r) ∧ Below w.heap.size w w' := by
  obtain rfl := Option.some.inj h
  exact is_calls a0 w

def digest_List.f (l0 : List ByteArray) : Option ByteArray := if (joinL l0).length ≤ 140737488355328 then some (sumB (joinB l0)) else none
theorem digest_List.calls (A0 : Option Addr) (c0 : Nat) (l0 : List ByteArray) (r : ByteArray) (w : World) (hr0 : Kd.C Kd.string w A0 l0.length l0) (hc0 : l0.length ≤ c0) (hT : Tabs w) (h : digest_List.f l0 = some r) :
    Calls Tryz.prog 19 #[.slice A0 l0.length c0] w fun e w' => e = .returned (.string r) ∧ Below w.heap.size w w' := by
  unfold digest_List.f at h
  split at h
  · rename_i hs
    obtain rfl := Option.some.inj h
    exact list_calls A0 c0 l0 w hr0 hc0 hs hT
  · exact absurd h (by simp)

section
variable {P : Program} {ops : Array Oper} {rest : List Oper} {o : Oper} {a : Act} {Q : Exit → Act → World → Prop}
/-- make([]T, 0, n): a row of its own, empty. -/
theorem R_make0 {α : Type} (d : Kd α) {w0 W : World} (base e : Nat) (hgd : o.guard = none) {N : Tmp} (hd : o.dst = some N) (t : TypeId) (x y : Operand) (ho : o.op = .makeSlice t x y) (n : Int) (hx : a.eval x = .int .i64 0) (hy : a.eval y = .int .i64 n)
    (ht : P.underlying t = some (.slice e)) (z : Value) (bytes : Nat) (hinfo : (P.info? e).map (fun i => (i.zero, i.size, i.bytes)) = some (some z, d.sz, bytes)) (hz : z.cells.size = d.sz) (hs0 : 0 < d.sz) (hb0 : 0 < bytes)
    {ok : Nat → Prop} (hfresh : ok W.heap.size) (h0 : 0 ≤ n) (hl : n.toNat * bytes ≤ 281474976710656) (HB : Below base w0 W) (hbase : base ≤ W.heap.size)
    (h : ∀ v1 w1, d.R e w1 base ok v1 [] → Below base w0 w1 → W.grownBy w1 none → (∃ b, v1.ownBlock = some b ∧ W.heap.size ≤ b) → wpList P ops Q rest (a.put o.dst v1) w1) : wpList P ops Q (o :: rest) a W := by
  obtain ⟨m, rfl⟩ := Int.eq_ofNat_of_zero_le h0
  simp only [Int.toNat_natCast] at hl
  obtain ⟨i0, hi, hzz⟩ := Option.map_eq_some_iff.1 hinfo
  simp only [Prod.mk.injEq] at hzz
  obtain ⟨hz0, hz1, hz2⟩ := hzz
  have hm : m ≤ 281474976710656 := Nat.le_trans (Nat.le_mul_of_pos_right _ hb0) hl
  obtain ⟨w1, hr, hown, hg⟩ := run_make_own (P := P) W base t e i0 z d.sz ht hi hz0 hz1 .i64 .i64 m (by rw [hz2, Nat.mul_comm]; exact hl) (by unfold maxLen; omega) hbase
  refine Kd.event_run hgd ?_ (h _ w1 ⟨fun k hk => ?_, [], hown, Reps.none _ _⟩ (HB.grown hg hbase (by simp)) hg ⟨W.heap.size, by simp [Value.ownBlock], Nat.le_refl _⟩)
  · simp [execOp, ho, hx, hy, hr]
  · have : W.heap.size = k := by simpa [Value.ownBlock] using hk
    subst this
    exact hfresh
end

end Go.Proofs.YtapnakfhkdcfeaaGreatDoor.Dg

set_option linter.unusedVariables false
set_option linter.unusedSimpArgs false
namespace Go.Proofs.YtapnakfhkdcfeaaGreatDoor.Dg
open Go.ChangeShapes Go.WideShapes Go.RowKit Go.Proofs.YtapnakfhkdcfeaaGreatDoorW.PrintWords

theorem open_strs {H : Type} {enc : TypeId × Value → H} {P : Program} {W : World} {base : Nat} {spare : Nat → Bool} {held : Bool} {t e : TypeId} {A : Option Addr} {len cap : Nat} {d : DataW H} {ps : List MemPlace} {ts : List TypeId} {ds : List (DataW H)} {j : Nat}
    (hu : P.underlying t = some (.slice e)) (he : P.underlying e = some .string) (hc : P.cellsOf e = 1) (hB : P.bytesOf e = 16)
    (hsz : (DataW.weightsEach P ts ds).all (· ≤ reachBytes) = true) (ht : ts[j]? = some t) (hd : ds[j]? = some d)
    (h : DataW.Trod enc P W base spare held t (.slice A len cap) d ps) :
    ∃ l : List ByteArray, len = l.length ∧ Kd.C Kd.string W A l.length l ∧ l.length ≤ cap ∧ l.length ≤ 140737488351232 := by
  obtain ⟨fuel, hf⟩ := h
  rcases open_strings hu he hc hf with ⟨hcs, _⟩ | ⟨x, n, c, ss, hcs, _, hl, _, hz, hx, hr, _⟩
  · simp [Value.cells] at hcs
    obtain ⟨rfl, rfl, rfl⟩ := hcs
    refine ⟨[], rfl, ?_, by simp, by simp⟩
    exact Kd.C_of_reads (d := ByteArray.empty) ⟨rfl, by simp, fun h0 => by simp at h0⟩
  · simp [Value.cells] at hcs
    obtain ⟨rfl, rfl, rfl⟩ := hcs
    obtain ⟨hx, _⟩ := Prod.mk.inj hx
    subst hx
    have z := sized_slice hsz ht hd hu
    rw [hB] at z
    have hl2 : len ≤ ss.length := by
      rw [hz]
      split
      · exact hl
      · exact Nat.le_refl _
    have h1 : (strs (H := H) (ss.take len)).length + (strs (H := H) (ss.drop len)).length = ss.length := by
      simp [strs]
      omega
    rw [h1] at z
    have e1 : (ss.take len).length = len := by rw [List.length_take]; omega
    refine ⟨ss.take len, e1.symm, ?_, by rw [e1]; exact hl, ?_⟩
    · rw [e1]
      refine Kd.C_of_reads (d := ByteArray.empty) ⟨e1, by unfold reachBytes at z; omega, fun _ => ⟨x, rfl, fun i hi => ?_⟩⟩
      rw [hr i (by omega)]
      simp [List.getD, List.getElem?_take, hi]
    · rw [e1]; unfold reachBytes at z; omega

end Go.Proofs.YtapnakfhkdcfeaaGreatDoor.Dg

set_option linter.unusedVariables false
set_option linter.unusedSimpArgs false
namespace Go.Proofs.YtapnakfhkdcfeaaGreatDoor.Dg
open Go.ChangeShapes Go.WideShapes Go.ChangeAt Go.RowKit

theorem own : ownKnob Tryz.prog.godebug = none := by kernel_rfl

theorem tab_of_laid {W : World} {l : List (String × DataW Unit)} {name : String} {k : IntKind} {zs : List Int} {g : Nat} {t e : TypeId} {n : Nat}
    (hl : laidMetH Tryz.prog l W) (hh : (l.filter fun x => x.2.handleName?.isSome) = []) (hm : l.filter (fun x => x.1 == name) = [(name, Lib.tabData k zs)])
    (hg : Tryz.prog.globalNamed name = some g) (hty : (Tryz.prog.globals[g]?).map (·.type) = some t) (ht : Tryz.prog.underlying t = some (.array n e)) (he : Tryz.prog.underlying e = some (.int k)) (hce : Tryz.prog.cellsOf e = 1) (hct : Tryz.prog.cellsOf t = n) :
    Lib.TabIs Tryz.prog W name k zs := by
  have h1 : laidMet Tryz.prog l W := by
    unfold laidMetH at hl
    rw [hh] at hl
    exact hl
  have h2 := h1.filter (fun x => x.1 == name)
  rw [hm] at h2
  exact Lib.tabIs_of_head (rest := []) hg hty ht he hce hct h2

def bruijnZ : List Int := [0, 1, 56, 2, 57, 49, 28, 3, 61, 58, 42, 50, 38, 29, 17, 4, 62, 47, 59, 36, 45, 43, 51, 22, 53, 39, 33, 30, 24, 18, 12, 5, 63, 55, 48, 27, 60, 41, 37, 16, 46, 35, 44, 21, 52, 32, 23, 11, 54, 26, 40, 15, 34, 20, 31, 10, 25, 14, 19, 9, 13, 8, 7, 6]
theorem g_bruijn : Tryz.prog.globalNamed "math/bits.deBruijn64tab" = some 5 := by kernel_rfl

theorem tabs_of {W : World} {l : List (String × DataW Unit)} (hl : laidMetH Tryz.prog l W) (hh : (l.filter fun x => x.2.handleName?.isSome) = [])
    (h1 : l.filter (fun x => x.1 == "math/bits.deBruijn64tab") = [("math/bits.deBruijn64tab", Lib.tabData .u8 bruijnZ)])
    (h2 : l.filter (fun x => x.1 == "internal/strconv.uint64pow10") = [("internal/strconv.uint64pow10", Lib.tabData .u64 Lib.pow10Tab)]) : Tabs W where
  bruijn := (tab_of_laid hl hh h1 g_bruijn (by kernel_rfl) Tryz.underlying127 Tryz.underlying5 (by kernel_rfl) (by kernel_rfl)).cell g_bruijn 15 (by decide)
  pow10 := tab_of_laid hl hh h2 g_pow10 (by kernel_rfl) Tryz.underlying113 Tryz.underlying70 (by kernel_rfl) (by kernel_rfl)

/-- The cells that lay a datum of numbers and records of numbers. -/
def cellsOfData : DataW Unit → List Value
  | .lit (.int k n) => [.int k n]
  | .agg l => l.flatMap fun d => match d with
    | .lit (.int k n) => [.int k n]
    | .agg m => m.map fun e => match e with
      | .lit (.int k n) => .int k n
      | _ => .nilIface
    | _ => []
  | _ => []
def layAt (g : Nat) (d : DataW Unit) (h : Array Obj) : Array Obj := h.modify g fun
  | .cells _ t frozen => .cells (cellsOfData d).toArray t frozen
  | o => o

/-- A world for a witness: the settled one, the listed variables holding what they are listed with. -/
noncomputable def laidWorld (l : List (String × DataW Unit)) (os : Os) (i : Input) : World :=
  { World.holding Tryz.prog os i with heap := l.foldl (fun h x => match Tryz.prog.globalNamed x.1 with | some g => layAt g x.2 h | none => h) (World.holding Tryz.prog os i).heap }

end Go.Proofs.YtapnakfhkdcfeaaGreatDoor.Dg
