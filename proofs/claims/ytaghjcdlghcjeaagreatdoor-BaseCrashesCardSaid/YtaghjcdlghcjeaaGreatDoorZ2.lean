/- Still more words: the first ones of a list alone. -/
import Derived.Shelf.Strings.OnBuilder
import Derived.Shelf.Strconv.Atoi
import Derived.Shelf.Strconv.Itoa0
import Derived.Shelf.Strconv.Itoa1
import Derived.Shelf.LaysM
import Derived.Shelf.Strconv.Itoa2
import Derived.Shelf.Strconv.Itoa3
import Derived.Shelf.Strings.Split
import Derived.Shelf.Strings.SplitShaped
import Derived.Test.YtaghjcdlghcjeaaGreatDoorProg
import Derived.Test.YtaghjcdlghcjeaaGreatDoorZ0
import Derived.Lib.AppendIntMem
import Derived.Lib.Walk
import Derived.WalkKit
import Derived.BigCall
import Derived.BigGuard
import Derived.Test.YtaghjcdlghcjeaaGreatDoorZ1
import Derived.RangeFuncNested
import Derived.RangeFuncBound
import Derived.RangeFuncCalls
import Derived.RangeFuncLeaves
import Derived.Shelf.Abstract
import Derived.Shelf.RegionOpen
import Derived.OwnWalkIn
import Derived.TacticsInMore
import Derived.LoopNIn
import Derived.LoopIn
/- The library's contracts at this translation: laid by the kit's tool. -/
namespace Go.Proofs.Shs
open Go.Proofs
open Go.Shelf
def Tryz.lays156_ren : Go.Shelf.Ren := ⟨fun | 156 => 56 | 165 => 74 | 166 => 75 | 169 => 76 | 240 => 104 | 241 => 105 | 276 => 124 | 277 => 125 | n => n, fun | 31 => 100 | 9 => 9 | 3 => 3 | 4 => 4 | 0 => 0 | 20 => 20 | 72 => 150 | 76 => 41 | 70 => 147 | 37 => 148 | 75 => 31 | 127 => 188 | 164 => 129 | 5 => 5 | 80 => 151 | n => n, fun | n => n⟩
theorem Tryz.lays156 : Go.Proofs.Lays.n156 Tryz.prog Tryz.lays156_ren := {
  mixed := by kernel_rfl
  f156 := Tryz.func56.trans (congrArg some (by kernel_rfl))
  f165 := Tryz.func74.trans (congrArg some (by kernel_rfl))
  f166 := Tryz.func75.trans (congrArg some (by kernel_rfl))
  f169 := Tryz.func76.trans (congrArg some (by kernel_rfl))
  f240 := Tryz.func104.trans (congrArg some (by kernel_rfl))
  f241 := Tryz.func105.trans (congrArg some (by kernel_rfl))
  f276 := Tryz.func124.trans (congrArg some (by kernel_rfl))
  f277 := Tryz.func125.trans (congrArg some (by kernel_rfl))
  t0 := Tryz.underlying0
  a0 := Tryz.isAgg0
  z0 := Tryz.sizeOf0
  v0 := Tryz.zeroValue0
  t3 := Tryz.underlying3
  a3 := Tryz.isAgg3
  z3 := Tryz.sizeOf3
  v3 := Tryz.zeroValue3
  t4 := Tryz.underlying4
  a4 := Tryz.isAgg4
  z4 := Tryz.sizeOf4
  v4 := Tryz.zeroValue4
  t9 := Tryz.underlying9
  a9 := Tryz.isAgg9
  z9 := Tryz.sizeOf9
  v9 := Tryz.zeroValue9
  t20 := Tryz.underlying20
  a20 := Tryz.isAgg20
  z20 := Tryz.sizeOf20
  v20 := Tryz.zeroValue20
  t31 := Tryz.underlying100
  a31 := Tryz.isAgg100
  z31 := Tryz.sizeOf100
  v31 := Tryz.zeroValue100
  t37 := Tryz.underlying148
  a37 := Tryz.isAgg148
  z37 := Tryz.sizeOf148
  v37 := Tryz.zeroValue148
  t70 := Tryz.underlying147
  a70 := Tryz.isAgg147
  z70 := Tryz.sizeOf147
  v70 := Tryz.zeroValue147
  t72 := Tryz.underlying150
  a72 := Tryz.isAgg150
  z72 := Tryz.sizeOf150
  v72 := Tryz.zeroValue150
  t75 := Tryz.underlying31
  a75 := Tryz.isAgg31
  z75 := Tryz.sizeOf31
  v75 := Tryz.zeroValue31
  t76 := Tryz.underlying41
  a76 := Tryz.isAgg41
  z76 := Tryz.sizeOf41
  v76 := Tryz.zeroValue41
  t127 := Tryz.underlying188
  a127 := Tryz.isAgg188
  z127 := Tryz.sizeOf188
  v127 := Tryz.zeroValue188
  t164 := Tryz.underlying129
  a164 := Tryz.isAgg129
  z164 := Tryz.sizeOf129
  v164 := Tryz.zeroValue129 }
theorem Tryz.Builder_Extra_156 : Builder.Extra Tryz.prog Tryz.lays156_ren := {
  sizeBuilder := by kernel_rfl
  liesBuilder := by kernel_rfl
  t5 := Tryz.underlying5
  a5 := Tryz.isAgg5
  z5 := Tryz.sizeOf5
  v5 := Tryz.zeroValue5
  infoByte := by kernel_rfl
  cellsByte := by kernel_rfl
  sizeByte := by kernel_rfl
  neB5 := by decide }
open Go.RowKit in
/-- No element: the empty string; the world is as it was. (Whatever the slice's address and capacity: a nil slice too.) (LAID: no walk: one application.) -/
theorem Tryz.strings_Join_none (a : Option Addr) (c : Nat) (sep : ByteArray) (w : World) :
    Calls Tryz.prog 56 #[.slice a 0 c, .string sep] w fun e w' => e = .returned (.string ⟨#[]⟩) ∧ w' = w := Any.strings_Join_none Tryz.lays156 Tryz.Builder_Extra_156 a c sep w
open Go.RowKit in
/-- strings.Join: "Join concatenates the elements of its first argument to create a single string. The separator string sep is placed between elements in the resulting string.": HOWEVER MANY ELEMENTS. Below the heap's end the world is as it was. (LAID: no walk: one application.) -/
theorem Tryz.strings_Join (bk o c : Nat) (xs : List ByteArray) (sep : ByteArray) (w : World) (hcells : ∀ (j : Nat) x, xs[j]? = some x → w.cell? ⟨bk, o + j, none⟩ = some (.string x)) (hbk : bk < w.heap.size) (hN : xs.length ≤ 140737488355328) (hcap : xs.length ≤ c) (hlen : (Lib.join (xs.map (·.data.toList)) sep.data.toList).length ≤ 140737488355328) :
    Calls Tryz.prog 56 #[.slice (some ⟨bk, o, none⟩) xs.length c, .string sep] w fun e w' => e = .returned (.string ⟨(Lib.join (xs.map (·.data.toList)) sep.data.toList).toArray⟩) ∧ Below w.heap.size w w' := Any.strings_Join Tryz.lays156 Tryz.Builder_Extra_156 bk o c xs sep w hcells hbk hN hcap hlen
def Tryz.lays244_ren : Go.Shelf.Ren := ⟨fun | 244 => 59 | 247 => 81 | 287 => 114 | 321 => 135 | 322 => 136 | n => n, fun | 9 => 9 | 3 => 3 | 75 => 31 | 4 => 4 | 5 => 5 | 167 => 154 | 37 => 148 | 0 => 0 | 85 => 155 | 2 => 2 | 53 => 124 | 175 => 197 | 46 => 76 | 21 => 21 | 80 => 151 | n => n, fun | n => n⟩
theorem Tryz.lays244 : Go.Proofs.Lays.n244 Tryz.prog Tryz.lays244_ren := {
  mixed := by kernel_rfl
  f244 := Tryz.func59.trans (congrArg some (by kernel_rfl))
  f247 := Tryz.func81.trans (congrArg some (by kernel_rfl))
  f287 := Tryz.func114.trans (congrArg some (by kernel_rfl))
  f321 := Tryz.func135.trans (congrArg some (by kernel_rfl))
  f322 := Tryz.func136.trans (congrArg some (by kernel_rfl))
  t0 := Tryz.underlying0
  a0 := Tryz.isAgg0
  z0 := Tryz.sizeOf0
  v0 := Tryz.zeroValue0
  t2 := Tryz.underlying2
  a2 := Tryz.isAgg2
  z2 := Tryz.sizeOf2
  v2 := Tryz.zeroValue2
  t3 := Tryz.underlying3
  a3 := Tryz.isAgg3
  z3 := Tryz.sizeOf3
  v3 := Tryz.zeroValue3
  t4 := Tryz.underlying4
  a4 := Tryz.isAgg4
  z4 := Tryz.sizeOf4
  v4 := Tryz.zeroValue4
  t5 := Tryz.underlying5
  a5 := Tryz.isAgg5
  z5 := Tryz.sizeOf5
  v5 := Tryz.zeroValue5
  t9 := Tryz.underlying9
  a9 := Tryz.isAgg9
  z9 := Tryz.sizeOf9
  v9 := Tryz.zeroValue9
  t21 := Tryz.underlying21
  a21 := Tryz.isAgg21
  z21 := Tryz.sizeOf21
  v21 := Tryz.zeroValue21
  t37 := Tryz.underlying148
  a37 := Tryz.isAgg148
  z37 := Tryz.sizeOf148
  v37 := Tryz.zeroValue148
  t46 := Tryz.underlying76
  a46 := Tryz.isAgg76
  z46 := Tryz.sizeOf76
  v46 := Tryz.zeroValue76
  t53 := Tryz.underlying124
  a53 := Tryz.isAgg124
  z53 := Tryz.sizeOf124
  v53 := Tryz.zeroValue124
  t75 := Tryz.underlying31
  a75 := Tryz.isAgg31
  z75 := Tryz.sizeOf31
  v75 := Tryz.zeroValue31
  t85 := Tryz.underlying155
  a85 := Tryz.isAgg155
  z85 := Tryz.sizeOf155
  v85 := Tryz.zeroValue155
  t167 := Tryz.underlying154
  a167 := Tryz.isAgg154
  z167 := Tryz.sizeOf154
  v167 := Tryz.zeroValue154
  t175 := Tryz.underlying197
  a175 := Tryz.isAgg197
  z175 := Tryz.sizeOf197
  v175 := Tryz.zeroValue197 }
open Go.RowKit in
/-- internal/strconv.Atoi, at a decimal numeral of at most 18 bytes: ITS VALUE, AND NO ERROR. The world behind the call: the one new row that '[]byte(s)' lays. (LAID: no walk: one application.) -/
theorem Tryz.internal_strconv_Atoi (s : ByteArray) (n : Int) (hl : s.size ≤ 18) (h : Lib.atoi s.data.toList = some n) (w : World) :
    Calls Tryz.prog 59 #[.string s] w fun e w' => e = .returned (.tuple #[.int .i64 n, .nilIface]) ∧ ∃ t, w' = Lib.bytesWorld w 5 t := Any.internal_strconv_Atoi Tryz.lays244 s n hl h w
def Tryz.lays172_ren : Go.Shelf.Ren := ⟨fun | 172 => 39 | 244 => 59 | 245 => 60 | 247 => 81 | 279 => 82 | 280 => 83 | 281 => 84 | 282 => 85 | 287 => 114 | 316 => 115 | 171 => 55 | 205 => 116 | 321 => 135 | 322 => 136 | 243 => 73 | 246 => 103 | 283 => 106 | 284 => 107 | 285 => 108 | 286 => 109 | 129 => 101 | 317 => 126 | 318 => 127 | 319 => 128 | 320 => 129 | 337 => 138 | 338 => 139 | n => n, fun | 9 => 9 | 3 => 3 | 75 => 31 | 76 => 41 | 4 => 4 | 5 => 5 | 167 => 154 | 37 => 148 | 0 => 0 | 85 => 155 | 2 => 2 | 168 => 157 | 53 => 124 | 175 => 197 | 46 => 76 | 210 => 201 | 127 => 188 | 145 => 220 | 143 => 218 | 21 => 21 | 171 => 189 | 173 => 191 | 212 => 214 | 51 => 184 | 20 => 20 | 213 => 215 | 232 => 230 | 233 => 231 | 80 => 151 | n => n, fun | 15 => 1 | 16 => 2 | 17 => 3 | 18 => 7 | 19 => 8 | n => n⟩
theorem Tryz.lays172 : Go.Proofs.Lays.n172 Tryz.prog Tryz.lays172_ren := {
  mixed := by kernel_rfl
  f129 := Tryz.func101.trans (congrArg some (by kernel_rfl))
  f171 := Tryz.func55.trans (congrArg some (by kernel_rfl))
  f172 := Tryz.func39.trans (congrArg some (by kernel_rfl))
  f205 := Tryz.func116.trans (congrArg some (by kernel_rfl))
  f243 := Tryz.func73.trans (congrArg some (by kernel_rfl))
  f244 := Tryz.func59.trans (congrArg some (by kernel_rfl))
  f245 := Tryz.func60.trans (congrArg some (by kernel_rfl))
  f246 := Tryz.func103.trans (congrArg some (by kernel_rfl))
  f247 := Tryz.func81.trans (congrArg some (by kernel_rfl))
  f279 := Tryz.func82.trans (congrArg some (by kernel_rfl))
  f280 := Tryz.func83.trans (congrArg some (by kernel_rfl))
  f281 := Tryz.func84.trans (congrArg some (by kernel_rfl))
  f282 := Tryz.func85.trans (congrArg some (by kernel_rfl))
  f283 := Tryz.func106.trans (congrArg some (by kernel_rfl))
  f284 := Tryz.func107.trans (congrArg some (by kernel_rfl))
  f285 := Tryz.func108.trans (congrArg some (by kernel_rfl))
  f286 := Tryz.func109.trans (congrArg some (by kernel_rfl))
  f287 := Tryz.func114.trans (congrArg some (by kernel_rfl))
  f316 := Tryz.func115.trans (congrArg some (by kernel_rfl))
  f317 := Tryz.func126.trans (congrArg some (by kernel_rfl))
  f318 := Tryz.func127.trans (congrArg some (by kernel_rfl))
  f319 := Tryz.func128.trans (congrArg some (by kernel_rfl))
  f320 := Tryz.func129.trans (congrArg some (by kernel_rfl))
  f321 := Tryz.func135.trans (congrArg some (by kernel_rfl))
  f322 := Tryz.func136.trans (congrArg some (by kernel_rfl))
  f337 := Tryz.func138.trans (congrArg some (by kernel_rfl))
  f338 := Tryz.func139.trans (congrArg some (by kernel_rfl))
  t0 := Tryz.underlying0
  a0 := Tryz.isAgg0
  z0 := Tryz.sizeOf0
  v0 := Tryz.zeroValue0
  t2 := Tryz.underlying2
  a2 := Tryz.isAgg2
  z2 := Tryz.sizeOf2
  v2 := Tryz.zeroValue2
  t3 := Tryz.underlying3
  a3 := Tryz.isAgg3
  z3 := Tryz.sizeOf3
  v3 := Tryz.zeroValue3
  t4 := Tryz.underlying4
  a4 := Tryz.isAgg4
  z4 := Tryz.sizeOf4
  v4 := Tryz.zeroValue4
  t5 := Tryz.underlying5
  a5 := Tryz.isAgg5
  z5 := Tryz.sizeOf5
  v5 := Tryz.zeroValue5
  t9 := Tryz.underlying9
  a9 := Tryz.isAgg9
  z9 := Tryz.sizeOf9
  v9 := Tryz.zeroValue9
  t20 := Tryz.underlying20
  a20 := Tryz.isAgg20
  z20 := Tryz.sizeOf20
  v20 := Tryz.zeroValue20
  t21 := Tryz.underlying21
  a21 := Tryz.isAgg21
  z21 := Tryz.sizeOf21
  v21 := Tryz.zeroValue21
  t37 := Tryz.underlying148
  a37 := Tryz.isAgg148
  z37 := Tryz.sizeOf148
  v37 := Tryz.zeroValue148
  t46 := Tryz.underlying76
  a46 := Tryz.isAgg76
  z46 := Tryz.sizeOf76
  v46 := Tryz.zeroValue76
  t51 := Tryz.underlying184
  a51 := Tryz.isAgg184
  z51 := Tryz.sizeOf184
  v51 := Tryz.zeroValue184
  t53 := Tryz.underlying124
  a53 := Tryz.isAgg124
  z53 := Tryz.sizeOf124
  v53 := Tryz.zeroValue124
  t75 := Tryz.underlying31
  a75 := Tryz.isAgg31
  z75 := Tryz.sizeOf31
  v75 := Tryz.zeroValue31
  t76 := Tryz.underlying41
  a76 := Tryz.isAgg41
  z76 := Tryz.sizeOf41
  v76 := Tryz.zeroValue41
  t85 := Tryz.underlying155
  a85 := Tryz.isAgg155
  z85 := Tryz.sizeOf155
  v85 := Tryz.zeroValue155
  t127 := Tryz.underlying188
  a127 := Tryz.isAgg188
  z127 := Tryz.sizeOf188
  v127 := Tryz.zeroValue188
  t143 := Tryz.underlying218
  a143 := Tryz.isAgg218
  z143 := Tryz.sizeOf218
  v143 := Tryz.zeroValue218
  t145 := Tryz.underlying220
  a145 := Tryz.isAgg220
  z145 := Tryz.sizeOf220
  v145 := Tryz.zeroValue220
  t167 := Tryz.underlying154
  a167 := Tryz.isAgg154
  z167 := Tryz.sizeOf154
  v167 := Tryz.zeroValue154
  t168 := Tryz.underlying157
  a168 := Tryz.isAgg157
  z168 := Tryz.sizeOf157
  v168 := Tryz.zeroValue157
  t171 := Tryz.underlying189
  a171 := Tryz.isAgg189
  z171 := Tryz.sizeOf189
  v171 := Tryz.zeroValue189
  t173 := Tryz.underlying191
  a173 := Tryz.isAgg191
  z173 := Tryz.sizeOf191
  v173 := Tryz.zeroValue191
  t175 := Tryz.underlying197
  a175 := Tryz.isAgg197
  z175 := Tryz.sizeOf197
  v175 := Tryz.zeroValue197
  t210 := Tryz.underlying201
  a210 := Tryz.isAgg201
  z210 := Tryz.sizeOf201
  v210 := Tryz.zeroValue201
  t212 := Tryz.underlying214
  a212 := Tryz.isAgg214
  z212 := Tryz.sizeOf214
  v212 := Tryz.zeroValue214
  t213 := Tryz.underlying215
  a213 := Tryz.isAgg215
  z213 := Tryz.sizeOf215
  t232 := Tryz.underlying230
  a232 := Tryz.isAgg230
  z232 := Tryz.sizeOf230
  v232 := Tryz.zeroValue230
  t233 := Tryz.underlying231
  a233 := Tryz.isAgg231
  z233 := Tryz.sizeOf231
  v233 := Tryz.zeroValue231
  g15 := by kernel_rfl
  g16 := by kernel_rfl
  g17 := by kernel_rfl
  g18 := by kernel_rfl
  g19 := by kernel_rfl }
open Go.RowKit in
/-- strconv.Atoi: "Atoi is equivalent to ParseInt(s, 10, 0), converted to type int.": AT A DECIMAL NUMERAL OF AT MOST 18 BYTES: its value, and a nil error. The world behind the call: the one new row that the library's '[]byte(s)' lays. (LAID: no walk: one application.) -/
theorem Tryz.strconv_Atoi (s : ByteArray) (n : Int) (hl : s.size ≤ 18) (h : Lib.atoi s.data.toList = some n) (w : World) :
    Calls Tryz.prog 39 #[.string s] w fun e w' => e = .returned (.tuple #[.int .i64 n, .nilIface]) ∧ ∃ t, w' = Lib.bytesWorld w 5 t := Any.strconv_Atoi Tryz.lays172 s n hl h w
def Tryz.lays129_ren : Go.Shelf.Ren := ⟨fun | 129 => 101 | n => n, fun | 53 => 124 | 3 => 3 | 4 => 4 | 46 => 76 | 5 => 5 | 9 => 9 | n => n, fun | n => n⟩
theorem Tryz.lays129 : Go.Proofs.Lays.n129 Tryz.prog Tryz.lays129_ren := {
  mixed := by kernel_rfl
  f129 := Tryz.func101.trans (congrArg some (by kernel_rfl))
  t3 := Tryz.underlying3
  a3 := Tryz.isAgg3
  z3 := Tryz.sizeOf3
  v3 := Tryz.zeroValue3
  t4 := Tryz.underlying4
  a4 := Tryz.isAgg4
  z4 := Tryz.sizeOf4
  v4 := Tryz.zeroValue4
  t5 := Tryz.underlying5
  a5 := Tryz.isAgg5
  z5 := Tryz.sizeOf5
  v5 := Tryz.zeroValue5
  t9 := Tryz.underlying9
  a9 := Tryz.isAgg9
  z9 := Tryz.sizeOf9
  v9 := Tryz.zeroValue9
  t46 := Tryz.underlying76
  a46 := Tryz.isAgg76
  z46 := Tryz.sizeOf76
  v46 := Tryz.zeroValue76
  t53 := Tryz.underlying124
  a53 := Tryz.isAgg124
  z53 := Tryz.sizeOf124
  v53 := Tryz.zeroValue124 }
/-- bits.Len64: "Len64 returns the minimum number of bits required to represent x; the result is 0 for x == 0.": IT RETURNS 'Lib.bitLen x'; the world is as it was. ('h0', 'h1': x is a uint64.) (LAID: no walk: one application.) -/
theorem Tryz.bits_Len64 (x : Int) (w : World) (h0 : 0 ≤ x) (h1 : x ≤ 18446744073709551615) :
    Calls Tryz.prog 101 #[.int .u64 x] w fun e w' => e = .returned (.int .i64 (Lib.bitLen x.toNat)) ∧ w' = w := Any.bits_Len64 Tryz.lays129 x w h0 h1
def Tryz.lays317_ren : Go.Shelf.Ren := ⟨fun | 317 => 126 | n => n, fun | 3 => 3 | 46 => 76 | n => n, fun | n => n⟩
theorem Tryz.lays317 : Go.Proofs.Lays.n317 Tryz.prog Tryz.lays317_ren := {
  mixed := by kernel_rfl
  f317 := Tryz.func126.trans (congrArg some (by kernel_rfl))
  t3 := Tryz.underlying3
  a3 := Tryz.isAgg3
  z3 := Tryz.sizeOf3
  v3 := Tryz.zeroValue3
  t46 := Tryz.underlying76
  a46 := Tryz.isAgg76
  z46 := Tryz.sizeOf76
  v46 := Tryz.zeroValue76 }
open Go.Lib in
/-- internal/strconv.log10Pow2: "log10Pow2(x) returns ⌊log₁₀ 2**x⌋ = ⌊x * log₁₀ 2⌋.": '(x * 78913) >> 18', at an x up to 64 (a length in bits). The world is as it was. (LAID: no walk: one application.) -/
theorem Tryz.internal_strconv_log10Pow2 (x : Nat) (h : x ≤ 64) (w : World) :
    Calls Tryz.prog 126 #[.int .i64 x] w fun e w' => e = .returned (.int .i64 (Lib.l10 x)) ∧ w' = w := Any.internal_strconv_log10Pow2 Tryz.lays317 x h w
def Tryz.lays318_ren : Go.Shelf.Ren := ⟨fun | 318 => 127 | n => n, fun | 3 => 3 | 4 => 4 | n => n, fun | n => n⟩
theorem Tryz.lays318 : Go.Proofs.Lays.n318 Tryz.prog Tryz.lays318_ren := {
  mixed := by kernel_rfl
  f318 := Tryz.func127.trans (congrArg some (by kernel_rfl))
  t3 := Tryz.underlying3
  a3 := Tryz.isAgg3
  z3 := Tryz.sizeOf3
  v3 := Tryz.zeroValue3
  t4 := Tryz.underlying4
  a4 := Tryz.isAgg4
  z4 := Tryz.sizeOf4
  v4 := Tryz.zeroValue4 }
open Go.Lib in
/-- internal/strconv.bool2: "bool2 converts b to an integer: 1 for true, 0 for false." The world is as it was. (LAID: no walk: one application.) -/
theorem Tryz.internal_strconv_bool2_int (b : Bool) (w : World) :
    Calls Tryz.prog 127 #[.bool b] w fun e w' => e = .returned (.int .i64 (if b then 1 else 0)) ∧ w' = w := Any.internal_strconv_bool2_int Tryz.lays318 b w
def Tryz.lays283_ren : Go.Shelf.Ren := ⟨fun | 283 => 106 | n => n, fun | 3 => 3 | 9 => 9 | 4 => 4 | n => n, fun | n => n⟩
theorem Tryz.lays283 : Go.Proofs.Lays.n283 Tryz.prog Tryz.lays283_ren := {
  mixed := by kernel_rfl
  f283 := Tryz.func106.trans (congrArg some (by kernel_rfl))
  t3 := Tryz.underlying3
  a3 := Tryz.isAgg3
  z3 := Tryz.sizeOf3
  v3 := Tryz.zeroValue3
  t4 := Tryz.underlying4
  a4 := Tryz.isAgg4
  z4 := Tryz.sizeOf4
  v4 := Tryz.zeroValue4
  t9 := Tryz.underlying9
  a9 := Tryz.isAgg9
  z9 := Tryz.sizeOf9
  v9 := Tryz.zeroValue9 }
open Go.Lib in
/-- internal/strconv.small: "small returns the string for an i with 0 <= i < nSmalls.": i's decimal numeral. The world is as it was. (LAID: no walk: one application.) -/
theorem Tryz.internal_strconv_small (i : Nat) (h : i < 100) (w : World) :
    Calls Tryz.prog 106 #[.int .i64 i] w fun e w' => e = .returned (.string ⟨(Lib.decDigits i).toArray⟩) ∧ w' = w := Any.internal_strconv_small Tryz.lays283 i h w
def Tryz.laysM284_ren : Go.Shelf.Ren := ⟨fun | 284 => 107 | 129 => 101 | 317 => 126 | 318 => 127 | n => n, fun | 53 => 124 | 3 => 3 | 212 => 214 | 0 => 0 | 4 => 4 | 46 => 76 | 5 => 5 | 9 => 9 | n => n, fun | 17 => 3 | n => n⟩
theorem Tryz.laysM284 : Go.Proofs.LaysM.n284 Tryz.prog Tryz.laysM284_ren := {
  mixed := by kernel_rfl
  f129 := Tryz.func101.trans (congrArg some (by kernel_rfl))
  f284 := Tryz.func107.trans (congrArg some (by kernel_rfl))
  f317 := Tryz.func126.trans (congrArg some (by kernel_rfl))
  f318 := Tryz.func127.trans (congrArg some (by kernel_rfl))
  t0 := Tryz.underlying0
  a0 := Tryz.isAgg0
  z0 := Tryz.sizeOf0
  v0 := Tryz.zeroValue0
  t3 := Tryz.underlying3
  a3 := Tryz.isAgg3
  z3 := Tryz.sizeOf3
  v3 := Tryz.zeroValue3
  t4 := Tryz.underlying4
  a4 := Tryz.isAgg4
  z4 := Tryz.sizeOf4
  v4 := Tryz.zeroValue4
  t5 := Tryz.underlying5
  a5 := Tryz.isAgg5
  z5 := Tryz.sizeOf5
  v5 := Tryz.zeroValue5
  t9 := Tryz.underlying9
  a9 := Tryz.isAgg9
  z9 := Tryz.sizeOf9
  v9 := Tryz.zeroValue9
  t46 := Tryz.underlying76
  a46 := Tryz.isAgg76
  z46 := Tryz.sizeOf76
  v46 := Tryz.zeroValue76
  t53 := Tryz.underlying124
  a53 := Tryz.isAgg124
  z53 := Tryz.sizeOf124
  v53 := Tryz.zeroValue124
  t212 := Tryz.underlying214
  a212 := Tryz.isAgg214
  z212 := Tryz.sizeOf214
  v212 := Tryz.zeroValue214
  g17 := by kernel_rfl
  i0 := by kernel_rfl
  i3 := by kernel_rfl
  i4 := by kernel_rfl
  i5 := by kernel_rfl
  i9 := by kernel_rfl
  i46 := by kernel_rfl
  i53 := by kernel_rfl
  i212 := by kernel_rfl
  m17 := by kernel_rfl }
open Go.Lib in
/-- internal/strconv.numDigits, at a d that is not 0: THE NUMBER OF d's DECIMAL DIGITS. The world is as it was. (LAID: no walk: one application.) -/
theorem Tryz.internal_strconv_numDigits (u : Nat) (h1 : 1 ≤ u) (h2 : u < 18446744073709551616) (w : World) (htab : Lib.TabIs Tryz.prog w "internal/strconv.uint64pow10" .u64 Lib.pow10Tab) :
    Calls Tryz.prog 107 #[.int .u64 u] w fun e w' => e = .returned (.int .i64 (Lib.nDigits u)) ∧ w' = w := Any.internal_strconv_numDigits Tryz.laysM284 u h1 h2 w htab
def Tryz.lays285_ren : Go.Shelf.Ren := ⟨fun | 285 => 108 | n => n, fun | 37 => 148 | 53 => 124 | 3 => 3 | 4 => 4 | 51 => 184 | 9 => 9 | 5 => 5 | 0 => 0 | n => n, fun | n => n⟩
theorem Tryz.lays285 : Go.Proofs.Lays.n285 Tryz.prog Tryz.lays285_ren := {
  mixed := by kernel_rfl
  f285 := Tryz.func108.trans (congrArg some (by kernel_rfl))
  t0 := Tryz.underlying0
  a0 := Tryz.isAgg0
  z0 := Tryz.sizeOf0
  v0 := Tryz.zeroValue0
  t3 := Tryz.underlying3
  a3 := Tryz.isAgg3
  z3 := Tryz.sizeOf3
  v3 := Tryz.zeroValue3
  t4 := Tryz.underlying4
  a4 := Tryz.isAgg4
  z4 := Tryz.sizeOf4
  v4 := Tryz.zeroValue4
  t5 := Tryz.underlying5
  a5 := Tryz.isAgg5
  z5 := Tryz.sizeOf5
  v5 := Tryz.zeroValue5
  t9 := Tryz.underlying9
  a9 := Tryz.isAgg9
  z9 := Tryz.sizeOf9
  v9 := Tryz.zeroValue9
  t37 := Tryz.underlying148
  a37 := Tryz.isAgg148
  z37 := Tryz.sizeOf148
  v37 := Tryz.zeroValue148
  t51 := Tryz.underlying184
  a51 := Tryz.isAgg184
  z51 := Tryz.sizeOf184
  v51 := Tryz.zeroValue184
  t53 := Tryz.underlying124
  a53 := Tryz.isAgg124
  z53 := Tryz.sizeOf124
  v53 := Tryz.zeroValue124 }
open Go.RowKit Go.Sort Go.Lib in
/-- internal/strconv.formatBase10: "formatBase10 formats the decimal representation of u into a. The caller is responsible for ensuring that a is big enough to hold u. If a is too big, leading zeros will be filled in as needed.": THE ROW HOLDS u's DIGITS ('FmtInv .. 0 ..': every place t holds 'dg u (len - 1 - t)'); all else is as it was but for the count of draws. (LAID: no walk: one application.) -/
theorem Tryz.internal_strconv_formatBase10 (blk off cap : Nat) (u : Nat) (d : Array UInt8) (w : World) (hH : Holds (fun (b : UInt8) => Value.int .u8 (b.toNat : Int)) w blk off d) (hu : u < 10 ^ d.size) (hu64 : u < 18446744073709551616) (hsz : d.size < 4611686018427387904) :
    Calls Tryz.prog 108 #[.slice (some ⟨blk, off, none⟩) d.size cap, .int .u64 u] w fun e w' =>
      e = .returned (.tuple #[]) ∧ ∃ (n v' : Nat) (dk : Array UInt8), w' = (putRow (fun (b : UInt8) => Value.int .u8 (b.toNat : Int)) w blk off dk).drewN n ∧ FmtInv d.size u 0 v' dk := Any.internal_strconv_formatBase10 Tryz.lays285 blk off cap u d w hH hu hu64 hsz
def Tryz.laysM246_ren : Go.Shelf.Ren := ⟨fun | 246 => 103 | 283 => 106 | 284 => 107 | 285 => 108 | 286 => 109 | 129 => 101 | 317 => 126 | 318 => 127 | 319 => 128 | 320 => 129 | 337 => 138 | 338 => 139 | n => n, fun | 2 => 2 | 3 => 3 | 9 => 9 | 4 => 4 | 171 => 189 | 0 => 0 | 53 => 124 | 37 => 148 | 5 => 5 | 173 => 191 | 212 => 214 | 51 => 184 | 20 => 20 | 213 => 215 | 46 => 76 | 232 => 230 | 233 => 231 | n => n, fun | 17 => 3 | 18 => 7 | 19 => 8 | n => n⟩
theorem Tryz.laysM246 : Go.Proofs.LaysM.n246 Tryz.prog Tryz.laysM246_ren := {
  mixed := by kernel_rfl
  f129 := Tryz.func101.trans (congrArg some (by kernel_rfl))
  f246 := Tryz.func103.trans (congrArg some (by kernel_rfl))
  f283 := Tryz.func106.trans (congrArg some (by kernel_rfl))
  f284 := Tryz.func107.trans (congrArg some (by kernel_rfl))
  f285 := Tryz.func108.trans (congrArg some (by kernel_rfl))
  f286 := Tryz.func109.trans (congrArg some (by kernel_rfl))
  f317 := Tryz.func126.trans (congrArg some (by kernel_rfl))
  f318 := Tryz.func127.trans (congrArg some (by kernel_rfl))
  f319 := Tryz.func128.trans (congrArg some (by kernel_rfl))
  f320 := Tryz.func129.trans (congrArg some (by kernel_rfl))
  f337 := Tryz.func138.trans (congrArg some (by kernel_rfl))
  f338 := Tryz.func139.trans (congrArg some (by kernel_rfl))
  t0 := Tryz.underlying0
  a0 := Tryz.isAgg0
  z0 := Tryz.sizeOf0
  v0 := Tryz.zeroValue0
  t2 := Tryz.underlying2
  a2 := Tryz.isAgg2
  z2 := Tryz.sizeOf2
  v2 := Tryz.zeroValue2
  t3 := Tryz.underlying3
  a3 := Tryz.isAgg3
  z3 := Tryz.sizeOf3
  v3 := Tryz.zeroValue3
  t4 := Tryz.underlying4
  a4 := Tryz.isAgg4
  z4 := Tryz.sizeOf4
  v4 := Tryz.zeroValue4
  t5 := Tryz.underlying5
  a5 := Tryz.isAgg5
  z5 := Tryz.sizeOf5
  v5 := Tryz.zeroValue5
  t9 := Tryz.underlying9
  a9 := Tryz.isAgg9
  z9 := Tryz.sizeOf9
  v9 := Tryz.zeroValue9
  t20 := Tryz.underlying20
  a20 := Tryz.isAgg20
  z20 := Tryz.sizeOf20
  v20 := Tryz.zeroValue20
  t37 := Tryz.underlying148
  a37 := Tryz.isAgg148
  z37 := Tryz.sizeOf148
  v37 := Tryz.zeroValue148
  t46 := Tryz.underlying76
  a46 := Tryz.isAgg76
  z46 := Tryz.sizeOf76
  v46 := Tryz.zeroValue76
  t51 := Tryz.underlying184
  a51 := Tryz.isAgg184
  z51 := Tryz.sizeOf184
  v51 := Tryz.zeroValue184
  t53 := Tryz.underlying124
  a53 := Tryz.isAgg124
  z53 := Tryz.sizeOf124
  v53 := Tryz.zeroValue124
  t171 := Tryz.underlying189
  a171 := Tryz.isAgg189
  z171 := Tryz.sizeOf189
  v171 := Tryz.zeroValue189
  t173 := Tryz.underlying191
  a173 := Tryz.isAgg191
  z173 := Tryz.sizeOf191
  v173 := Tryz.zeroValue191
  t212 := Tryz.underlying214
  a212 := Tryz.isAgg214
  z212 := Tryz.sizeOf214
  v212 := Tryz.zeroValue214
  t213 := Tryz.underlying215
  a213 := Tryz.isAgg215
  z213 := Tryz.sizeOf215
  t232 := Tryz.underlying230
  a232 := Tryz.isAgg230
  z232 := Tryz.sizeOf230
  v232 := Tryz.zeroValue230
  t233 := Tryz.underlying231
  a233 := Tryz.isAgg231
  z233 := Tryz.sizeOf231
  v233 := Tryz.zeroValue231
  g17 := by kernel_rfl
  g18 := by kernel_rfl
  g19 := by kernel_rfl
  i0 := by kernel_rfl
  i2 := by kernel_rfl
  i3 := by kernel_rfl
  i4 := by kernel_rfl
  i5 := by kernel_rfl
  i9 := by kernel_rfl
  i20 := by kernel_rfl
  i37 := by kernel_rfl
  i46 := by kernel_rfl
  i51 := by kernel_rfl
  i53 := by kernel_rfl
  i171 := by kernel_rfl
  i173 := by kernel_rfl
  i212 := by kernel_rfl
  i232 := by kernel_rfl
  i233 := by kernel_rfl
  m17 := by kernel_rfl
  m18 := by kernel_rfl
  m19 := by kernel_rfl }
open Go.RowKit Go.Sort Go.Lib in
/-- internal/strconv.FormatInt: "FormatInt returns the string representation of i in the given base": AT BASE 10: i's decimal numeral, for every int64. The world behind the call: the world before it, new blocks behind the heap, draws. (LAID: no walk: one application.) -/
theorem Tryz.internal_strconv_FormatInt_10 (n : Int) (h0 : -9223372036854775808 ≤ n) (h1 : n ≤ 9223372036854775807) (w : World) (htab : Lib.TabIs Tryz.prog w "internal/strconv.uint64pow10" .u64 Lib.pow10Tab) :
    Calls Tryz.prog 103 #[.int .i64 n, .int .i64 10] w fun e w' => e = .returned (.string ⟨(Lib.itoa n).toArray⟩) ∧ ∃ k os, w' = grow (w.drewN k) os := Any.internal_strconv_FormatInt_10 Tryz.laysM246 n h0 h1 w htab
def Tryz.lays246_ren : Go.Shelf.Ren := ⟨fun | 246 => 103 | 283 => 106 | 284 => 107 | 285 => 108 | 286 => 109 | 129 => 101 | 317 => 126 | 318 => 127 | 319 => 128 | 320 => 129 | 337 => 138 | 338 => 139 | n => n, fun | 2 => 2 | 3 => 3 | 9 => 9 | 4 => 4 | 171 => 189 | 0 => 0 | 53 => 124 | 37 => 148 | 5 => 5 | 173 => 191 | 212 => 214 | 51 => 184 | 20 => 20 | 213 => 215 | 46 => 76 | 232 => 230 | 233 => 231 | n => n, fun | 17 => 3 | 18 => 7 | 19 => 8 | n => n⟩
theorem Tryz.lays246 : Go.Proofs.Lays.n246 Tryz.prog Tryz.lays246_ren := {
  mixed := by kernel_rfl
  f129 := Tryz.func101.trans (congrArg some (by kernel_rfl))
  f246 := Tryz.func103.trans (congrArg some (by kernel_rfl))
  f283 := Tryz.func106.trans (congrArg some (by kernel_rfl))
  f284 := Tryz.func107.trans (congrArg some (by kernel_rfl))
  f285 := Tryz.func108.trans (congrArg some (by kernel_rfl))
  f286 := Tryz.func109.trans (congrArg some (by kernel_rfl))
  f317 := Tryz.func126.trans (congrArg some (by kernel_rfl))
  f318 := Tryz.func127.trans (congrArg some (by kernel_rfl))
  f319 := Tryz.func128.trans (congrArg some (by kernel_rfl))
  f320 := Tryz.func129.trans (congrArg some (by kernel_rfl))
  f337 := Tryz.func138.trans (congrArg some (by kernel_rfl))
  f338 := Tryz.func139.trans (congrArg some (by kernel_rfl))
  t0 := Tryz.underlying0
  a0 := Tryz.isAgg0
  z0 := Tryz.sizeOf0
  v0 := Tryz.zeroValue0
  t2 := Tryz.underlying2
  a2 := Tryz.isAgg2
  z2 := Tryz.sizeOf2
  v2 := Tryz.zeroValue2
  t3 := Tryz.underlying3
  a3 := Tryz.isAgg3
  z3 := Tryz.sizeOf3
  v3 := Tryz.zeroValue3
  t4 := Tryz.underlying4
  a4 := Tryz.isAgg4
  z4 := Tryz.sizeOf4
  v4 := Tryz.zeroValue4
  t5 := Tryz.underlying5
  a5 := Tryz.isAgg5
  z5 := Tryz.sizeOf5
  v5 := Tryz.zeroValue5
  t9 := Tryz.underlying9
  a9 := Tryz.isAgg9
  z9 := Tryz.sizeOf9
  v9 := Tryz.zeroValue9
  t20 := Tryz.underlying20
  a20 := Tryz.isAgg20
  z20 := Tryz.sizeOf20
  v20 := Tryz.zeroValue20
  t37 := Tryz.underlying148
  a37 := Tryz.isAgg148
  z37 := Tryz.sizeOf148
  v37 := Tryz.zeroValue148
  t46 := Tryz.underlying76
  a46 := Tryz.isAgg76
  z46 := Tryz.sizeOf76
  v46 := Tryz.zeroValue76
  t51 := Tryz.underlying184
  a51 := Tryz.isAgg184
  z51 := Tryz.sizeOf184
  v51 := Tryz.zeroValue184
  t53 := Tryz.underlying124
  a53 := Tryz.isAgg124
  z53 := Tryz.sizeOf124
  v53 := Tryz.zeroValue124
  t171 := Tryz.underlying189
  a171 := Tryz.isAgg189
  z171 := Tryz.sizeOf189
  v171 := Tryz.zeroValue189
  t173 := Tryz.underlying191
  a173 := Tryz.isAgg191
  z173 := Tryz.sizeOf191
  v173 := Tryz.zeroValue191
  t212 := Tryz.underlying214
  a212 := Tryz.isAgg214
  z212 := Tryz.sizeOf214
  v212 := Tryz.zeroValue214
  t213 := Tryz.underlying215
  a213 := Tryz.isAgg215
  z213 := Tryz.sizeOf215
  t232 := Tryz.underlying230
  a232 := Tryz.isAgg230
  z232 := Tryz.sizeOf230
  v232 := Tryz.zeroValue230
  t233 := Tryz.underlying231
  a233 := Tryz.isAgg231
  z233 := Tryz.sizeOf231
  v233 := Tryz.zeroValue231
  g17 := by kernel_rfl
  g18 := by kernel_rfl
  g19 := by kernel_rfl }
open Go.RowKit Go.Sort Go.Lib in
/-- THE ROAD WITHOUT THE TABLE: 0 <= i < 100: two constants are read, nothing is laid: no premise on the world, and the world is as it was. (LAID: no walk: one application.) -/
theorem Tryz.internal_strconv_FormatInt_10_small (i : Nat) (hi : i < 100) (w : World) :
    Calls Tryz.prog 103 #[.int .i64 i, .int .i64 10] w fun e w' => e = .returned (.string ⟨(Lib.decDigits i).toArray⟩) ∧ w' = w := Any.internal_strconv_FormatInt_10_small Tryz.lays246 i hi w
def Tryz.laysM243_ren : Go.Shelf.Ren := ⟨fun | 243 => 73 | 246 => 103 | 283 => 106 | 284 => 107 | 285 => 108 | 286 => 109 | 129 => 101 | 317 => 126 | 318 => 127 | 319 => 128 | 320 => 129 | 337 => 138 | 338 => 139 | n => n, fun | 3 => 3 | 9 => 9 | 2 => 2 | 4 => 4 | 171 => 189 | 0 => 0 | 53 => 124 | 37 => 148 | 5 => 5 | 173 => 191 | 212 => 214 | 51 => 184 | 20 => 20 | 213 => 215 | 46 => 76 | 232 => 230 | 233 => 231 | n => n, fun | 17 => 3 | 18 => 7 | 19 => 8 | n => n⟩
theorem Tryz.laysM243 : Go.Proofs.LaysM.n243 Tryz.prog Tryz.laysM243_ren := {
  mixed := by kernel_rfl
  f129 := Tryz.func101.trans (congrArg some (by kernel_rfl))
  f243 := Tryz.func73.trans (congrArg some (by kernel_rfl))
  f246 := Tryz.func103.trans (congrArg some (by kernel_rfl))
  f283 := Tryz.func106.trans (congrArg some (by kernel_rfl))
  f284 := Tryz.func107.trans (congrArg some (by kernel_rfl))
  f285 := Tryz.func108.trans (congrArg some (by kernel_rfl))
  f286 := Tryz.func109.trans (congrArg some (by kernel_rfl))
  f317 := Tryz.func126.trans (congrArg some (by kernel_rfl))
  f318 := Tryz.func127.trans (congrArg some (by kernel_rfl))
  f319 := Tryz.func128.trans (congrArg some (by kernel_rfl))
  f320 := Tryz.func129.trans (congrArg some (by kernel_rfl))
  f337 := Tryz.func138.trans (congrArg some (by kernel_rfl))
  f338 := Tryz.func139.trans (congrArg some (by kernel_rfl))
  t0 := Tryz.underlying0
  a0 := Tryz.isAgg0
  z0 := Tryz.sizeOf0
  v0 := Tryz.zeroValue0
  t2 := Tryz.underlying2
  a2 := Tryz.isAgg2
  z2 := Tryz.sizeOf2
  v2 := Tryz.zeroValue2
  t3 := Tryz.underlying3
  a3 := Tryz.isAgg3
  z3 := Tryz.sizeOf3
  v3 := Tryz.zeroValue3
  t4 := Tryz.underlying4
  a4 := Tryz.isAgg4
  z4 := Tryz.sizeOf4
  v4 := Tryz.zeroValue4
  t5 := Tryz.underlying5
  a5 := Tryz.isAgg5
  z5 := Tryz.sizeOf5
  v5 := Tryz.zeroValue5
  t9 := Tryz.underlying9
  a9 := Tryz.isAgg9
  z9 := Tryz.sizeOf9
  v9 := Tryz.zeroValue9
  t20 := Tryz.underlying20
  a20 := Tryz.isAgg20
  z20 := Tryz.sizeOf20
  v20 := Tryz.zeroValue20
  t37 := Tryz.underlying148
  a37 := Tryz.isAgg148
  z37 := Tryz.sizeOf148
  v37 := Tryz.zeroValue148
  t46 := Tryz.underlying76
  a46 := Tryz.isAgg76
  z46 := Tryz.sizeOf76
  v46 := Tryz.zeroValue76
  t51 := Tryz.underlying184
  a51 := Tryz.isAgg184
  z51 := Tryz.sizeOf184
  v51 := Tryz.zeroValue184
  t53 := Tryz.underlying124
  a53 := Tryz.isAgg124
  z53 := Tryz.sizeOf124
  v53 := Tryz.zeroValue124
  t171 := Tryz.underlying189
  a171 := Tryz.isAgg189
  z171 := Tryz.sizeOf189
  v171 := Tryz.zeroValue189
  t173 := Tryz.underlying191
  a173 := Tryz.isAgg191
  z173 := Tryz.sizeOf191
  v173 := Tryz.zeroValue191
  t212 := Tryz.underlying214
  a212 := Tryz.isAgg214
  z212 := Tryz.sizeOf214
  v212 := Tryz.zeroValue214
  t213 := Tryz.underlying215
  a213 := Tryz.isAgg215
  z213 := Tryz.sizeOf215
  t232 := Tryz.underlying230
  a232 := Tryz.isAgg230
  z232 := Tryz.sizeOf230
  v232 := Tryz.zeroValue230
  t233 := Tryz.underlying231
  a233 := Tryz.isAgg231
  z233 := Tryz.sizeOf231
  v233 := Tryz.zeroValue231
  g17 := by kernel_rfl
  g18 := by kernel_rfl
  g19 := by kernel_rfl
  i0 := by kernel_rfl
  i2 := by kernel_rfl
  i3 := by kernel_rfl
  i4 := by kernel_rfl
  i5 := by kernel_rfl
  i9 := by kernel_rfl
  i20 := by kernel_rfl
  i37 := by kernel_rfl
  i46 := by kernel_rfl
  i51 := by kernel_rfl
  i53 := by kernel_rfl
  i171 := by kernel_rfl
  i173 := by kernel_rfl
  i212 := by kernel_rfl
  i232 := by kernel_rfl
  i233 := by kernel_rfl
  m17 := by kernel_rfl
  m18 := by kernel_rfl
  m19 := by kernel_rfl }
open Go.RowKit Go.Sort Go.Lib in
/-- internal/strconv.Itoa: "Itoa is equivalent to FormatInt(int64(i), 10).": i's decimal numeral, for every int. (LAID: no walk: one application.) -/
theorem Tryz.internal_strconv_Itoa (n : Int) (h0 : -9223372036854775808 ≤ n) (h1 : n ≤ 9223372036854775807) (w : World) (htab : Lib.TabIs Tryz.prog w "internal/strconv.uint64pow10" .u64 Lib.pow10Tab) :
    Calls Tryz.prog 73 #[.int .i64 n] w fun e w' => e = .returned (.string ⟨(Lib.itoa n).toArray⟩) ∧ ∃ k os, w' = grow (w.drewN k) os := Any.internal_strconv_Itoa Tryz.laysM243 n h0 h1 w htab
def Tryz.lays243_ren : Go.Shelf.Ren := ⟨fun | 243 => 73 | 246 => 103 | 283 => 106 | 284 => 107 | 285 => 108 | 286 => 109 | 129 => 101 | 317 => 126 | 318 => 127 | 319 => 128 | 320 => 129 | 337 => 138 | 338 => 139 | n => n, fun | 3 => 3 | 9 => 9 | 2 => 2 | 4 => 4 | 171 => 189 | 0 => 0 | 53 => 124 | 37 => 148 | 5 => 5 | 173 => 191 | 212 => 214 | 51 => 184 | 20 => 20 | 213 => 215 | 46 => 76 | 232 => 230 | 233 => 231 | n => n, fun | 17 => 3 | 18 => 7 | 19 => 8 | n => n⟩
theorem Tryz.lays243 : Go.Proofs.Lays.n243 Tryz.prog Tryz.lays243_ren := {
  mixed := by kernel_rfl
  f129 := Tryz.func101.trans (congrArg some (by kernel_rfl))
  f243 := Tryz.func73.trans (congrArg some (by kernel_rfl))
  f246 := Tryz.func103.trans (congrArg some (by kernel_rfl))
  f283 := Tryz.func106.trans (congrArg some (by kernel_rfl))
  f284 := Tryz.func107.trans (congrArg some (by kernel_rfl))
  f285 := Tryz.func108.trans (congrArg some (by kernel_rfl))
  f286 := Tryz.func109.trans (congrArg some (by kernel_rfl))
  f317 := Tryz.func126.trans (congrArg some (by kernel_rfl))
  f318 := Tryz.func127.trans (congrArg some (by kernel_rfl))
  f319 := Tryz.func128.trans (congrArg some (by kernel_rfl))
  f320 := Tryz.func129.trans (congrArg some (by kernel_rfl))
  f337 := Tryz.func138.trans (congrArg some (by kernel_rfl))
  f338 := Tryz.func139.trans (congrArg some (by kernel_rfl))
  t0 := Tryz.underlying0
  a0 := Tryz.isAgg0
  z0 := Tryz.sizeOf0
  v0 := Tryz.zeroValue0
  t2 := Tryz.underlying2
  a2 := Tryz.isAgg2
  z2 := Tryz.sizeOf2
  v2 := Tryz.zeroValue2
  t3 := Tryz.underlying3
  a3 := Tryz.isAgg3
  z3 := Tryz.sizeOf3
  v3 := Tryz.zeroValue3
  t4 := Tryz.underlying4
  a4 := Tryz.isAgg4
  z4 := Tryz.sizeOf4
  v4 := Tryz.zeroValue4
  t5 := Tryz.underlying5
  a5 := Tryz.isAgg5
  z5 := Tryz.sizeOf5
  v5 := Tryz.zeroValue5
  t9 := Tryz.underlying9
  a9 := Tryz.isAgg9
  z9 := Tryz.sizeOf9
  v9 := Tryz.zeroValue9
  t20 := Tryz.underlying20
  a20 := Tryz.isAgg20
  z20 := Tryz.sizeOf20
  v20 := Tryz.zeroValue20
  t37 := Tryz.underlying148
  a37 := Tryz.isAgg148
  z37 := Tryz.sizeOf148
  v37 := Tryz.zeroValue148
  t46 := Tryz.underlying76
  a46 := Tryz.isAgg76
  z46 := Tryz.sizeOf76
  v46 := Tryz.zeroValue76
  t51 := Tryz.underlying184
  a51 := Tryz.isAgg184
  z51 := Tryz.sizeOf184
  v51 := Tryz.zeroValue184
  t53 := Tryz.underlying124
  a53 := Tryz.isAgg124
  z53 := Tryz.sizeOf124
  v53 := Tryz.zeroValue124
  t171 := Tryz.underlying189
  a171 := Tryz.isAgg189
  z171 := Tryz.sizeOf189
  v171 := Tryz.zeroValue189
  t173 := Tryz.underlying191
  a173 := Tryz.isAgg191
  z173 := Tryz.sizeOf191
  v173 := Tryz.zeroValue191
  t212 := Tryz.underlying214
  a212 := Tryz.isAgg214
  z212 := Tryz.sizeOf214
  v212 := Tryz.zeroValue214
  t213 := Tryz.underlying215
  a213 := Tryz.isAgg215
  z213 := Tryz.sizeOf215
  t232 := Tryz.underlying230
  a232 := Tryz.isAgg230
  z232 := Tryz.sizeOf230
  v232 := Tryz.zeroValue230
  t233 := Tryz.underlying231
  a233 := Tryz.isAgg231
  z233 := Tryz.sizeOf231
  v233 := Tryz.zeroValue231
  g17 := by kernel_rfl
  g18 := by kernel_rfl
  g19 := by kernel_rfl }
open Go.RowKit Go.Sort Go.Lib in
/-- THE ROAD WITHOUT THE TABLE: 0 <= i < 100. (LAID: no walk: one application.) -/
theorem Tryz.internal_strconv_Itoa_small (i : Nat) (hi : i < 100) (w : World) :
    Calls Tryz.prog 73 #[.int .i64 i] w fun e w' => e = .returned (.string ⟨(Lib.decDigits i).toArray⟩) ∧ w' = w := Any.internal_strconv_Itoa_small Tryz.lays243 i hi w
def Tryz.laysM171_ren : Go.Shelf.Ren := ⟨fun | 171 => 55 | 243 => 73 | 246 => 103 | 283 => 106 | 284 => 107 | 285 => 108 | 286 => 109 | 129 => 101 | 317 => 126 | 318 => 127 | 319 => 128 | 320 => 129 | 337 => 138 | 338 => 139 | n => n, fun | 3 => 3 | 9 => 9 | 2 => 2 | 4 => 4 | 171 => 189 | 0 => 0 | 53 => 124 | 37 => 148 | 5 => 5 | 173 => 191 | 212 => 214 | 51 => 184 | 20 => 20 | 213 => 215 | 46 => 76 | 232 => 230 | 233 => 231 | n => n, fun | 17 => 3 | 18 => 7 | 19 => 8 | n => n⟩
theorem Tryz.laysM171 : Go.Proofs.LaysM.n171 Tryz.prog Tryz.laysM171_ren := {
  mixed := by kernel_rfl
  f129 := Tryz.func101.trans (congrArg some (by kernel_rfl))
  f171 := Tryz.func55.trans (congrArg some (by kernel_rfl))
  f243 := Tryz.func73.trans (congrArg some (by kernel_rfl))
  f246 := Tryz.func103.trans (congrArg some (by kernel_rfl))
  f283 := Tryz.func106.trans (congrArg some (by kernel_rfl))
  f284 := Tryz.func107.trans (congrArg some (by kernel_rfl))
  f285 := Tryz.func108.trans (congrArg some (by kernel_rfl))
  f286 := Tryz.func109.trans (congrArg some (by kernel_rfl))
  f317 := Tryz.func126.trans (congrArg some (by kernel_rfl))
  f318 := Tryz.func127.trans (congrArg some (by kernel_rfl))
  f319 := Tryz.func128.trans (congrArg some (by kernel_rfl))
  f320 := Tryz.func129.trans (congrArg some (by kernel_rfl))
  f337 := Tryz.func138.trans (congrArg some (by kernel_rfl))
  f338 := Tryz.func139.trans (congrArg some (by kernel_rfl))
  t0 := Tryz.underlying0
  a0 := Tryz.isAgg0
  z0 := Tryz.sizeOf0
  v0 := Tryz.zeroValue0
  t2 := Tryz.underlying2
  a2 := Tryz.isAgg2
  z2 := Tryz.sizeOf2
  v2 := Tryz.zeroValue2
  t3 := Tryz.underlying3
  a3 := Tryz.isAgg3
  z3 := Tryz.sizeOf3
  v3 := Tryz.zeroValue3
  t4 := Tryz.underlying4
  a4 := Tryz.isAgg4
  z4 := Tryz.sizeOf4
  v4 := Tryz.zeroValue4
  t5 := Tryz.underlying5
  a5 := Tryz.isAgg5
  z5 := Tryz.sizeOf5
  v5 := Tryz.zeroValue5
  t9 := Tryz.underlying9
  a9 := Tryz.isAgg9
  z9 := Tryz.sizeOf9
  v9 := Tryz.zeroValue9
  t20 := Tryz.underlying20
  a20 := Tryz.isAgg20
  z20 := Tryz.sizeOf20
  v20 := Tryz.zeroValue20
  t37 := Tryz.underlying148
  a37 := Tryz.isAgg148
  z37 := Tryz.sizeOf148
  v37 := Tryz.zeroValue148
  t46 := Tryz.underlying76
  a46 := Tryz.isAgg76
  z46 := Tryz.sizeOf76
  v46 := Tryz.zeroValue76
  t51 := Tryz.underlying184
  a51 := Tryz.isAgg184
  z51 := Tryz.sizeOf184
  v51 := Tryz.zeroValue184
  t53 := Tryz.underlying124
  a53 := Tryz.isAgg124
  z53 := Tryz.sizeOf124
  v53 := Tryz.zeroValue124
  t171 := Tryz.underlying189
  a171 := Tryz.isAgg189
  z171 := Tryz.sizeOf189
  v171 := Tryz.zeroValue189
  t173 := Tryz.underlying191
  a173 := Tryz.isAgg191
  z173 := Tryz.sizeOf191
  v173 := Tryz.zeroValue191
  t212 := Tryz.underlying214
  a212 := Tryz.isAgg214
  z212 := Tryz.sizeOf214
  v212 := Tryz.zeroValue214
  t213 := Tryz.underlying215
  a213 := Tryz.isAgg215
  z213 := Tryz.sizeOf215
  t232 := Tryz.underlying230
  a232 := Tryz.isAgg230
  z232 := Tryz.sizeOf230
  v232 := Tryz.zeroValue230
  t233 := Tryz.underlying231
  a233 := Tryz.isAgg231
  z233 := Tryz.sizeOf231
  v233 := Tryz.zeroValue231
  g17 := by kernel_rfl
  g18 := by kernel_rfl
  g19 := by kernel_rfl
  i0 := by kernel_rfl
  i2 := by kernel_rfl
  i3 := by kernel_rfl
  i4 := by kernel_rfl
  i5 := by kernel_rfl
  i9 := by kernel_rfl
  i20 := by kernel_rfl
  i37 := by kernel_rfl
  i46 := by kernel_rfl
  i51 := by kernel_rfl
  i53 := by kernel_rfl
  i171 := by kernel_rfl
  i173 := by kernel_rfl
  i212 := by kernel_rfl
  i232 := by kernel_rfl
  i233 := by kernel_rfl
  m17 := by kernel_rfl
  m18 := by kernel_rfl
  m19 := by kernel_rfl }
open Go.RowKit Go.Sort Go.Lib in
/-- strconv.Itoa: "Itoa is equivalent to FormatInt(int64(i), 10).": i's DECIMAL NUMERAL ('Lib.itoa': a '-' where i is negative, then the digits), FOR EVERY int. The world behind the call: the world before it, new blocks behind the heap (the library's 'var a [24]byte'), draws. (LAID: no walk: one application.) -/
theorem Tryz.strconv_Itoa (n : Int) (h0 : -9223372036854775808 ≤ n) (h1 : n ≤ 9223372036854775807) (w : World) (htab : Lib.TabIs Tryz.prog w "internal/strconv.uint64pow10" .u64 Lib.pow10Tab) :
    Calls Tryz.prog 55 #[.int .i64 n] w fun e w' => e = .returned (.string ⟨(Lib.itoa n).toArray⟩) ∧ ∃ k os, w' = grow (w.drewN k) os := Any.strconv_Itoa Tryz.laysM171 n h0 h1 w htab
def Tryz.lays171_ren : Go.Shelf.Ren := ⟨fun | 171 => 55 | 243 => 73 | 246 => 103 | 283 => 106 | 284 => 107 | 285 => 108 | 286 => 109 | 129 => 101 | 317 => 126 | 318 => 127 | 319 => 128 | 320 => 129 | 337 => 138 | 338 => 139 | n => n, fun | 3 => 3 | 9 => 9 | 2 => 2 | 4 => 4 | 171 => 189 | 0 => 0 | 53 => 124 | 37 => 148 | 5 => 5 | 173 => 191 | 212 => 214 | 51 => 184 | 20 => 20 | 213 => 215 | 46 => 76 | 232 => 230 | 233 => 231 | n => n, fun | 17 => 3 | 18 => 7 | 19 => 8 | n => n⟩
theorem Tryz.lays171 : Go.Proofs.Lays.n171 Tryz.prog Tryz.lays171_ren := {
  mixed := by kernel_rfl
  f129 := Tryz.func101.trans (congrArg some (by kernel_rfl))
  f171 := Tryz.func55.trans (congrArg some (by kernel_rfl))
  f243 := Tryz.func73.trans (congrArg some (by kernel_rfl))
  f246 := Tryz.func103.trans (congrArg some (by kernel_rfl))
  f283 := Tryz.func106.trans (congrArg some (by kernel_rfl))
  f284 := Tryz.func107.trans (congrArg some (by kernel_rfl))
  f285 := Tryz.func108.trans (congrArg some (by kernel_rfl))
  f286 := Tryz.func109.trans (congrArg some (by kernel_rfl))
  f317 := Tryz.func126.trans (congrArg some (by kernel_rfl))
  f318 := Tryz.func127.trans (congrArg some (by kernel_rfl))
  f319 := Tryz.func128.trans (congrArg some (by kernel_rfl))
  f320 := Tryz.func129.trans (congrArg some (by kernel_rfl))
  f337 := Tryz.func138.trans (congrArg some (by kernel_rfl))
  f338 := Tryz.func139.trans (congrArg some (by kernel_rfl))
  t0 := Tryz.underlying0
  a0 := Tryz.isAgg0
  z0 := Tryz.sizeOf0
  v0 := Tryz.zeroValue0
  t2 := Tryz.underlying2
  a2 := Tryz.isAgg2
  z2 := Tryz.sizeOf2
  v2 := Tryz.zeroValue2
  t3 := Tryz.underlying3
  a3 := Tryz.isAgg3
  z3 := Tryz.sizeOf3
  v3 := Tryz.zeroValue3
  t4 := Tryz.underlying4
  a4 := Tryz.isAgg4
  z4 := Tryz.sizeOf4
  v4 := Tryz.zeroValue4
  t5 := Tryz.underlying5
  a5 := Tryz.isAgg5
  z5 := Tryz.sizeOf5
  v5 := Tryz.zeroValue5
  t9 := Tryz.underlying9
  a9 := Tryz.isAgg9
  z9 := Tryz.sizeOf9
  v9 := Tryz.zeroValue9
  t20 := Tryz.underlying20
  a20 := Tryz.isAgg20
  z20 := Tryz.sizeOf20
  v20 := Tryz.zeroValue20
  t37 := Tryz.underlying148
  a37 := Tryz.isAgg148
  z37 := Tryz.sizeOf148
  v37 := Tryz.zeroValue148
  t46 := Tryz.underlying76
  a46 := Tryz.isAgg76
  z46 := Tryz.sizeOf76
  v46 := Tryz.zeroValue76
  t51 := Tryz.underlying184
  a51 := Tryz.isAgg184
  z51 := Tryz.sizeOf184
  v51 := Tryz.zeroValue184
  t53 := Tryz.underlying124
  a53 := Tryz.isAgg124
  z53 := Tryz.sizeOf124
  v53 := Tryz.zeroValue124
  t171 := Tryz.underlying189
  a171 := Tryz.isAgg189
  z171 := Tryz.sizeOf189
  v171 := Tryz.zeroValue189
  t173 := Tryz.underlying191
  a173 := Tryz.isAgg191
  z173 := Tryz.sizeOf191
  v173 := Tryz.zeroValue191
  t212 := Tryz.underlying214
  a212 := Tryz.isAgg214
  z212 := Tryz.sizeOf214
  v212 := Tryz.zeroValue214
  t213 := Tryz.underlying215
  a213 := Tryz.isAgg215
  z213 := Tryz.sizeOf215
  t232 := Tryz.underlying230
  a232 := Tryz.isAgg230
  z232 := Tryz.sizeOf230
  v232 := Tryz.zeroValue230
  t233 := Tryz.underlying231
  a233 := Tryz.isAgg231
  z233 := Tryz.sizeOf231
  v233 := Tryz.zeroValue231
  g17 := by kernel_rfl
  g18 := by kernel_rfl
  g19 := by kernel_rfl }
open Go.RowKit Go.Sort Go.Lib in
/-- THE ROAD WITHOUT THE TABLE: 0 <= i < 100: NO PREMISE ON THE WORLD, AND THE WORLD IS AS IT WAS: a row that keeps its argument in that range need list no table ('laid = []'). (LAID: no walk: one application.) -/
theorem Tryz.strconv_Itoa_small (i : Nat) (hi : i < 100) (w : World) :
    Calls Tryz.prog 55 #[.int .i64 i] w fun e w' => e = .returned (.string ⟨(Lib.decDigits i).toArray⟩) ∧ w' = w := Any.strconv_Itoa_small Tryz.lays171 i hi w
def Tryz.lays138_ren : Go.Shelf.Ren := ⟨fun | 138 => 79 | 195 => 110 | 218 => 112 | 143 => 80 | 219 => 113 | 217 => 131 | 225 => 132 | 224 => 133 | 267 => 134 | 266 => 140 | 314 => 141 | n => n, fun | 9 => 9 | 3 => 3 | 4 => 4 | 5 => 5 | 0 => 0 | 46 => 76 | 146 => 228 | 51 => 184 | n => n, fun | 1 => 4 | n => n⟩
theorem Tryz.lays138 : Go.Proofs.Lays.n138 Tryz.prog Tryz.lays138_ren := {
  mixed := by kernel_rfl
  f138 := Tryz.func79.trans (congrArg some (by kernel_rfl))
  f143 := Tryz.func80.trans (congrArg some (by kernel_rfl))
  f195 := Tryz.func110.trans (congrArg some (by kernel_rfl))
  f217 := Tryz.func131.trans (congrArg some (by kernel_rfl))
  f218 := Tryz.func112.trans (congrArg some (by kernel_rfl))
  f219 := Tryz.func113.trans (congrArg some (by kernel_rfl))
  f224 := Tryz.func133.trans (congrArg some (by kernel_rfl))
  f225 := Tryz.func132.trans (congrArg some (by kernel_rfl))
  f266 := Tryz.func140.trans (congrArg some (by kernel_rfl))
  f267 := Tryz.func134.trans (congrArg some (by kernel_rfl))
  f314 := Tryz.func141.trans (congrArg some (by kernel_rfl))
  t0 := Tryz.underlying0
  a0 := Tryz.isAgg0
  z0 := Tryz.sizeOf0
  v0 := Tryz.zeroValue0
  t3 := Tryz.underlying3
  a3 := Tryz.isAgg3
  z3 := Tryz.sizeOf3
  v3 := Tryz.zeroValue3
  t4 := Tryz.underlying4
  a4 := Tryz.isAgg4
  z4 := Tryz.sizeOf4
  v4 := Tryz.zeroValue4
  t5 := Tryz.underlying5
  a5 := Tryz.isAgg5
  z5 := Tryz.sizeOf5
  v5 := Tryz.zeroValue5
  t9 := Tryz.underlying9
  a9 := Tryz.isAgg9
  z9 := Tryz.sizeOf9
  v9 := Tryz.zeroValue9
  t46 := Tryz.underlying76
  a46 := Tryz.isAgg76
  z46 := Tryz.sizeOf76
  v46 := Tryz.zeroValue76
  t51 := Tryz.underlying184
  a51 := Tryz.isAgg184
  z51 := Tryz.sizeOf184
  v51 := Tryz.zeroValue184
  t146 := Tryz.underlying228
  a146 := Tryz.isAgg228
  z146 := Tryz.sizeOf228
  v146 := Tryz.zeroValue228
  g1 := by kernel_rfl }
open Go.RowKit Go.Lib in
/-- strings.Count at whatever sep that is not empty: the two roads under one statement. (LAID: no walk: one application.) -/
theorem Tryz.strings_Count_any (s sep : ByteArray) (m : Int) (w : World) (hs : s.size < 4294967281) (hm : w.cell? ⟨4, 0, none⟩ = some (.int .i64 m)) (h1 : 1 ≤ sep.size) :
    Calls Tryz.prog 79 #[.string s, .string sep] w fun e w' => e = .returned (.int .i64 (Lib.countB s sep)) ∧ w' = w := Any.strings_Count_any Tryz.lays138 s sep m w hs hm h1
def Tryz.lays221_ren : Go.Shelf.Ren := ⟨fun | 221 => 58 | 268 => 78 | 138 => 79 | 143 => 80 | 195 => 110 | 197 => 111 | 218 => 112 | 219 => 113 | 260 => 130 | 217 => 131 | 225 => 132 | 224 => 133 | 267 => 134 | 266 => 140 | 314 => 141 | n => n, fun | 9 => 9 | 3 => 3 | 31 => 100 | 4 => 4 | 0 => 0 | 105 => 194 | 21 => 21 | 5 => 5 | 46 => 76 | 119 => 224 | 139 => 227 | 138 => 226 | 146 => 228 | 51 => 184 | n => n, fun | 1 => 4 | 3 => 5 | 4 => 6 | n => n⟩
theorem Tryz.lays221 : Go.Proofs.Lays.n221 Tryz.prog Tryz.lays221_ren := {
  mixed := by kernel_rfl
  f138 := Tryz.func79.trans (congrArg some (by kernel_rfl))
  f143 := Tryz.func80.trans (congrArg some (by kernel_rfl))
  f195 := Tryz.func110.trans (congrArg some (by kernel_rfl))
  f197 := Tryz.func111.trans (congrArg some (by kernel_rfl))
  f217 := Tryz.func131.trans (congrArg some (by kernel_rfl))
  f218 := Tryz.func112.trans (congrArg some (by kernel_rfl))
  f219 := Tryz.func113.trans (congrArg some (by kernel_rfl))
  f221 := Tryz.func58.trans (congrArg some (by kernel_rfl))
  f224 := Tryz.func133.trans (congrArg some (by kernel_rfl))
  f225 := Tryz.func132.trans (congrArg some (by kernel_rfl))
  f260 := Tryz.func130.trans (congrArg some (by kernel_rfl))
  f266 := Tryz.func140.trans (congrArg some (by kernel_rfl))
  f267 := Tryz.func134.trans (congrArg some (by kernel_rfl))
  f268 := Tryz.func78.trans (congrArg some (by kernel_rfl))
  f314 := Tryz.func141.trans (congrArg some (by kernel_rfl))
  t0 := Tryz.underlying0
  a0 := Tryz.isAgg0
  z0 := Tryz.sizeOf0
  v0 := Tryz.zeroValue0
  t3 := Tryz.underlying3
  a3 := Tryz.isAgg3
  z3 := Tryz.sizeOf3
  v3 := Tryz.zeroValue3
  t4 := Tryz.underlying4
  a4 := Tryz.isAgg4
  z4 := Tryz.sizeOf4
  v4 := Tryz.zeroValue4
  t5 := Tryz.underlying5
  a5 := Tryz.isAgg5
  z5 := Tryz.sizeOf5
  v5 := Tryz.zeroValue5
  t9 := Tryz.underlying9
  a9 := Tryz.isAgg9
  z9 := Tryz.sizeOf9
  v9 := Tryz.zeroValue9
  t21 := Tryz.underlying21
  a21 := Tryz.isAgg21
  z21 := Tryz.sizeOf21
  v21 := Tryz.zeroValue21
  t31 := Tryz.underlying100
  a31 := Tryz.isAgg100
  z31 := Tryz.sizeOf100
  v31 := Tryz.zeroValue100
  t46 := Tryz.underlying76
  a46 := Tryz.isAgg76
  z46 := Tryz.sizeOf76
  v46 := Tryz.zeroValue76
  t51 := Tryz.underlying184
  a51 := Tryz.isAgg184
  z51 := Tryz.sizeOf184
  v51 := Tryz.zeroValue184
  t105 := Tryz.underlying194
  a105 := Tryz.isAgg194
  z105 := Tryz.sizeOf194
  v105 := Tryz.zeroValue194
  t119 := Tryz.underlying224
  a119 := Tryz.isAgg224
  z119 := Tryz.sizeOf224
  t138 := Tryz.underlying226
  a138 := Tryz.isAgg226
  z138 := Tryz.sizeOf226
  v138 := Tryz.zeroValue226
  t139 := Tryz.underlying227
  a139 := Tryz.isAgg227
  z139 := Tryz.sizeOf227
  v139 := Tryz.zeroValue227
  t146 := Tryz.underlying228
  a146 := Tryz.isAgg228
  z146 := Tryz.sizeOf228
  v146 := Tryz.zeroValue228
  g1 := by kernel_rfl
  g3 := by kernel_rfl
  g4 := by kernel_rfl }
open Go.RowKit Go.Lib in
theorem Tryz.strings_genSplit (s sep : ByteArray) (sv : Nat) (n : Int) (N : Nat) (m : Int) (w : World) (hs : s.size < 4294967281) (hm : w.cell? ⟨4, 0, none⟩ = some (.int .i64 m)) (h1 : 1 ≤ sep.size) (hsv : sv ≤ sep.size) (hn0 : n ≠ 0) (hn63 : n ≤ 9223372036854775807) (hN : (N : Int) = min (if n < 0 then (Lib.countB s sep : Int) + 1 else n) ((s.size : Int) + 1)) :
    Calls Tryz.prog 58 #[.string s, .string sep, .int .i64 sv, .int .i64 n] w fun e w' =>
      e = .returned (.slice (some ⟨w.heap.size, 0, none⟩) (Lib.splitB sep sv (N - 1) s).length N) ∧ w' = w.alloc (.cells (Lib.cellsOf (Lib.splitB sep sv (N - 1) s) N) 9) := Any.strings_genSplit Tryz.lays221 (by kernel_rfl) s sep sv n N m w hs hm h1 hsv hn0 hn63 hN
def Tryz.lays146_ren : Go.Shelf.Ren := ⟨fun | 146 => 38 | 221 => 58 | 268 => 78 | 138 => 79 | 143 => 80 | 195 => 110 | 197 => 111 | 218 => 112 | 219 => 113 | 260 => 130 | 217 => 131 | 225 => 132 | 224 => 133 | 267 => 134 | 266 => 140 | 314 => 141 | n => n, fun | 9 => 9 | 31 => 100 | 3 => 3 | 4 => 4 | 0 => 0 | 105 => 194 | 21 => 21 | 5 => 5 | 46 => 76 | 119 => 224 | 139 => 227 | 138 => 226 | 146 => 228 | 51 => 184 | n => n, fun | 1 => 4 | 3 => 5 | 4 => 6 | n => n⟩
theorem Tryz.lays146 : Go.Proofs.Lays.n146 Tryz.prog Tryz.lays146_ren := {
  mixed := by kernel_rfl
  f138 := Tryz.func79.trans (congrArg some (by kernel_rfl))
  f143 := Tryz.func80.trans (congrArg some (by kernel_rfl))
  f146 := Tryz.func38.trans (congrArg some (by kernel_rfl))
  f195 := Tryz.func110.trans (congrArg some (by kernel_rfl))
  f197 := Tryz.func111.trans (congrArg some (by kernel_rfl))
  f217 := Tryz.func131.trans (congrArg some (by kernel_rfl))
  f218 := Tryz.func112.trans (congrArg some (by kernel_rfl))
  f219 := Tryz.func113.trans (congrArg some (by kernel_rfl))
  f221 := Tryz.func58.trans (congrArg some (by kernel_rfl))
  f224 := Tryz.func133.trans (congrArg some (by kernel_rfl))
  f225 := Tryz.func132.trans (congrArg some (by kernel_rfl))
  f260 := Tryz.func130.trans (congrArg some (by kernel_rfl))
  f266 := Tryz.func140.trans (congrArg some (by kernel_rfl))
  f267 := Tryz.func134.trans (congrArg some (by kernel_rfl))
  f268 := Tryz.func78.trans (congrArg some (by kernel_rfl))
  f314 := Tryz.func141.trans (congrArg some (by kernel_rfl))
  t0 := Tryz.underlying0
  a0 := Tryz.isAgg0
  z0 := Tryz.sizeOf0
  v0 := Tryz.zeroValue0
  t3 := Tryz.underlying3
  a3 := Tryz.isAgg3
  z3 := Tryz.sizeOf3
  v3 := Tryz.zeroValue3
  t4 := Tryz.underlying4
  a4 := Tryz.isAgg4
  z4 := Tryz.sizeOf4
  v4 := Tryz.zeroValue4
  t5 := Tryz.underlying5
  a5 := Tryz.isAgg5
  z5 := Tryz.sizeOf5
  v5 := Tryz.zeroValue5
  t9 := Tryz.underlying9
  a9 := Tryz.isAgg9
  z9 := Tryz.sizeOf9
  v9 := Tryz.zeroValue9
  t21 := Tryz.underlying21
  a21 := Tryz.isAgg21
  z21 := Tryz.sizeOf21
  v21 := Tryz.zeroValue21
  t31 := Tryz.underlying100
  a31 := Tryz.isAgg100
  z31 := Tryz.sizeOf100
  v31 := Tryz.zeroValue100
  t46 := Tryz.underlying76
  a46 := Tryz.isAgg76
  z46 := Tryz.sizeOf76
  v46 := Tryz.zeroValue76
  t51 := Tryz.underlying184
  a51 := Tryz.isAgg184
  z51 := Tryz.sizeOf184
  v51 := Tryz.zeroValue184
  t105 := Tryz.underlying194
  a105 := Tryz.isAgg194
  z105 := Tryz.sizeOf194
  v105 := Tryz.zeroValue194
  t119 := Tryz.underlying224
  a119 := Tryz.isAgg224
  z119 := Tryz.sizeOf224
  t138 := Tryz.underlying226
  a138 := Tryz.isAgg226
  z138 := Tryz.sizeOf226
  v138 := Tryz.zeroValue226
  t139 := Tryz.underlying227
  a139 := Tryz.isAgg227
  z139 := Tryz.sizeOf227
  v139 := Tryz.zeroValue227
  t146 := Tryz.underlying228
  a146 := Tryz.isAgg228
  z146 := Tryz.sizeOf228
  v146 := Tryz.zeroValue228
  g1 := by kernel_rfl
  g3 := by kernel_rfl
  g4 := by kernel_rfl }
open Go.RowKit Go.Lib in
/-- strings.Split. (LAID: no walk: one application.) -/
theorem Tryz.strings_Split (s sep : ByteArray) (m : Int) (w : World) (hs : s.size < 4294967281) (hm : w.cell? ⟨4, 0, none⟩ = some (.int .i64 m)) (h1 : 1 ≤ sep.size) :
    Calls Tryz.prog 38 #[.string s, .string sep] w fun e w' =>
      e = .returned (.slice (some ⟨w.heap.size, 0, none⟩) (Lib.countB s sep + 1) (Lib.countB s sep + 1)) ∧ w' = w.alloc (.cells ((Lib.splitB sep 0 (Lib.countB s sep) s).map Value.string).toArray 9) := Any.strings_Split Tryz.lays146 (by kernel_rfl) s sep m w hs hm h1
def Tryz.laysM146_ren : Go.Shelf.Ren := ⟨fun | 146 => 38 | 221 => 58 | 268 => 78 | 138 => 79 | 143 => 80 | 195 => 110 | 197 => 111 | 218 => 112 | 219 => 113 | 260 => 130 | 217 => 131 | 225 => 132 | 224 => 133 | 267 => 134 | 266 => 140 | 314 => 141 | n => n, fun | 9 => 9 | 31 => 100 | 3 => 3 | 4 => 4 | 0 => 0 | 105 => 194 | 21 => 21 | 5 => 5 | 46 => 76 | 119 => 224 | 139 => 227 | 138 => 226 | 146 => 228 | 51 => 184 | n => n, fun | 1 => 4 | 3 => 5 | 4 => 6 | n => n⟩
theorem Tryz.laysM146 : Go.Proofs.LaysM.n146 Tryz.prog Tryz.laysM146_ren := {
  mixed := by kernel_rfl
  f138 := Tryz.func79.trans (congrArg some (by kernel_rfl))
  f143 := Tryz.func80.trans (congrArg some (by kernel_rfl))
  f146 := Tryz.func38.trans (congrArg some (by kernel_rfl))
  f195 := Tryz.func110.trans (congrArg some (by kernel_rfl))
  f197 := Tryz.func111.trans (congrArg some (by kernel_rfl))
  f217 := Tryz.func131.trans (congrArg some (by kernel_rfl))
  f218 := Tryz.func112.trans (congrArg some (by kernel_rfl))
  f219 := Tryz.func113.trans (congrArg some (by kernel_rfl))
  f221 := Tryz.func58.trans (congrArg some (by kernel_rfl))
  f224 := Tryz.func133.trans (congrArg some (by kernel_rfl))
  f225 := Tryz.func132.trans (congrArg some (by kernel_rfl))
  f260 := Tryz.func130.trans (congrArg some (by kernel_rfl))
  f266 := Tryz.func140.trans (congrArg some (by kernel_rfl))
  f267 := Tryz.func134.trans (congrArg some (by kernel_rfl))
  f268 := Tryz.func78.trans (congrArg some (by kernel_rfl))
  f314 := Tryz.func141.trans (congrArg some (by kernel_rfl))
  t0 := Tryz.underlying0
  a0 := Tryz.isAgg0
  z0 := Tryz.sizeOf0
  v0 := Tryz.zeroValue0
  t3 := Tryz.underlying3
  a3 := Tryz.isAgg3
  z3 := Tryz.sizeOf3
  v3 := Tryz.zeroValue3
  t4 := Tryz.underlying4
  a4 := Tryz.isAgg4
  z4 := Tryz.sizeOf4
  v4 := Tryz.zeroValue4
  t5 := Tryz.underlying5
  a5 := Tryz.isAgg5
  z5 := Tryz.sizeOf5
  v5 := Tryz.zeroValue5
  t9 := Tryz.underlying9
  a9 := Tryz.isAgg9
  z9 := Tryz.sizeOf9
  v9 := Tryz.zeroValue9
  t21 := Tryz.underlying21
  a21 := Tryz.isAgg21
  z21 := Tryz.sizeOf21
  v21 := Tryz.zeroValue21
  t31 := Tryz.underlying100
  a31 := Tryz.isAgg100
  z31 := Tryz.sizeOf100
  v31 := Tryz.zeroValue100
  t46 := Tryz.underlying76
  a46 := Tryz.isAgg76
  z46 := Tryz.sizeOf76
  v46 := Tryz.zeroValue76
  t51 := Tryz.underlying184
  a51 := Tryz.isAgg184
  z51 := Tryz.sizeOf184
  v51 := Tryz.zeroValue184
  t105 := Tryz.underlying194
  a105 := Tryz.isAgg194
  z105 := Tryz.sizeOf194
  v105 := Tryz.zeroValue194
  t119 := Tryz.underlying224
  a119 := Tryz.isAgg224
  z119 := Tryz.sizeOf224
  t138 := Tryz.underlying226
  a138 := Tryz.isAgg226
  z138 := Tryz.sizeOf226
  v138 := Tryz.zeroValue226
  t139 := Tryz.underlying227
  a139 := Tryz.isAgg227
  z139 := Tryz.sizeOf227
  v139 := Tryz.zeroValue227
  t146 := Tryz.underlying228
  a146 := Tryz.isAgg228
  z146 := Tryz.sizeOf228
  v146 := Tryz.zeroValue228
  g1 := by kernel_rfl
  g3 := by kernel_rfl
  g4 := by kernel_rfl
  i0 := by kernel_rfl
  i3 := by kernel_rfl
  i4 := by kernel_rfl
  i5 := by kernel_rfl
  i9 := by kernel_rfl
  i21 := by kernel_rfl
  i31 := by kernel_rfl
  i46 := by kernel_rfl
  i51 := by kernel_rfl
  i105 := by kernel_rfl
  i138 := by kernel_rfl
  i139 := by kernel_rfl
  i146 := by kernel_rfl
  m1 := by kernel_rfl
  s1_3 := fun w h => Go.Proofs.cell_of_shapedOpen_int (zero := #[.int .i64 0]) (t := 3) h (of_decide_eq_true (by kernel_rfl)) (by kernel_rfl) rfl (by kernel_rfl) (by kernel_rfl) Tryz.underlying3
  m3 := by kernel_rfl
  m4 := by kernel_rfl }
open Go.RowKit Go.Lib in
/-- strings.Split, sep not empty. (LAID: no walk: one application.) -/
theorem Tryz.strings_Split_shaped (s sep : ByteArray) (w : World) (h : w.ShapedOpen Tryz.prog) (hs : s.size < 4294967281) (h1 : 1 ≤ sep.size) :
    Calls Tryz.prog 38 #[.string s, .string sep] w fun e w' =>
      e = .returned (.slice (some ⟨w.heap.size, 0, none⟩) (Lib.countB s sep + 1) (Lib.countB s sep + 1)) ∧ w' = w.alloc (.cells ((Lib.splitB sep 0 (Lib.countB s sep) s).map Value.string).toArray 9) := Any.strings_Split_shaped Tryz.laysM146 s sep w h hs h1
end Go.Proofs.Shs
/- strconv.FormatUint at base 10: every uint64. Condition: the library's table of powers of ten is laid. -/
namespace Go.Proofs.YtaghjcdlghcjeaaGreatDoor
open Go Go.RowKit Go.Sort

/-- The library's table of powers of ten. -/
def Pow10 (w : World) : Prop := Lib.TabIs Tryz.prog w "internal/strconv.uint64pow10" .u64 Lib.pow10Tab
theorem Pow10.on {w w' : World} (h : Pow10 w) (hb : Below w.heap.size w w') : Pow10 w' := (Lib.tabBelow_of_tabIs h) w' hb

set_option maxHeartbeats 6400000 in
set_option maxRecDepth 100000 in
theorem formatUint_any (u : Nat) (hu64 : u < 18446744073709551616) (w : World) (htab : Pow10 w) :
    Calls Tryz.prog 77 #[.int .u64 u, .int .i64 10] w fun e w' => e = .returned (.string ⟨(Lib.decDigits u).toArray⟩) ∧ Below w.heap.size w w' := by
  by_cases hs : u < 100
  · have hw : IntKind.i64.wrap (u : Int) = u := IntWalk.i64_in _ (by omega)
    have iu : (u : Int) < 100 := by omega
    go_enter Tryz.func77, Tryz.ntmps77
    go_wp2_with (go_at_call 106; refine (Shs.Tryz.internal_strconv_small u hs _).mono ?_; rintro e w' ⟨rfl, rfl⟩)
    go_ret
    exact ⟨rfl, Below.refl _ _⟩
  · have hu1 : 1 ≤ u := by omega
    have hnd20 : Lib.nDigits u ≤ 20 := by have := Lib.numDigits_eq u hu1 hu64; split at this <;> omega
    have hal : Tryz.prog.arrayLen 189 = 24 := by kernel_rfl
    have hsl : ∀ W, (Instr.sliceAt 189 (.pointer (some ⟨w.heap.size, 0, none⟩)) none (some (.int .i64 (Lib.nDigits u : Int))) none).run Tryz.prog W = .ok (.slice (some ⟨w.heap.size, 0, none⟩) (Lib.nDigits u) 24) W := fun W => by
      rw [run_sliceAt_array_h W 189 ⟨w.heap.size, 0, none⟩ (by kernel_rfl) .i64 (Lib.nDigits u : Int) (by omega) (by rw [hal]; omega)]
      go_simp
    have hH0 := Lib.holds_zero0 w 189 (Lib.nDigits u) (by omega)
    have hfmt := Shs.Tryz.internal_strconv_formatBase10 w.heap.size 0 24 u (Array.replicate (Lib.nDigits u) 0) (w.alloc (.cells Lib.zeros24 189)) hH0 (by rw [Array.size_replicate]; exact Lib.lt_pow_nDigits u) hu64 (by rw [Array.size_replicate]; omega)
    rw [Array.size_replicate] at hfmt
    have HH0 := Lib.hid hH0
    have iu : (100 : Int) ≤ (u : Int) := by omega
    clear hH0 hal
    go_enter Tryz.func77, Tryz.ntmps77
    go_wp2_with (go_at_call 107; refine (Shs.Tryz.internal_strconv_numDigits u hu1 hu64 _ (Lib.tabIs_alloc htab _)).mono ?_; rintro e w' ⟨rfl, rfl⟩)
    go_at_call 108
    refine hfmt.mono ?_
    rintro e w' ⟨rfl, k, v', dk, rfl, hF⟩
    have hcv : (convert 148 9 (.slice (some ⟨w.heap.size, 0, none⟩) (Lib.nDigits u) 24)).run Tryz.prog ((putRow (fun (b : UInt8) => Value.int .u8 (b.toNat : Int)) (w.alloc (.cells Lib.zeros24 189)) w.heap.size 0 dk).drewN k) = .ok (.string ⟨(Lib.decDigits u).toArray⟩) ((putRow (fun (b : UInt8) => Value.int .u8 (b.toNat : Int)) (w.alloc (.cells Lib.zeros24 189)) w.heap.size 0 dk).drewN k) := by
      have h := run_convert_bytes_back (P := Tryz.prog) ((putRow (fun (b : UInt8) => Value.int .u8 (b.toNat : Int)) (w.alloc (.cells Lib.zeros24 189)) w.heap.size 0 dk).drewN k) 148 9 5 ⟨w.heap.size, 0, none⟩ 24 (Lib.decDigits u) (by kernel_rfl) (by kernel_rfl) (by kernel_rfl) (fun j hj => by
        rw [Lib.row_is_numeral hF j hj, Lib.add_plain, World.cell?_drewN]
        exact cell?_putRow (fun (b : UInt8) => Value.int .u8 (b.toNat : Int)) _ w.heap.size 0 _ dk HH0.out (by rw [hF.size, Array.size_replicate]) j (by rw [hF.size]; rw [Lib.decDigits_length] at hj; exact hj))
      rw [Lib.decDigits_length] at h
      exact h
    go_wp2
    go_ret
    obtain ⟨os, eo⟩ := Lib.fin_at w (.cells Lib.zeros24 189) dk k 0
    refine ⟨rfl, ?_⟩
    rw [eo]
    exact Lib.below_grow _ w (Nat.le_refl _) k os
/-- strconv.FormatUint. -/
theorem fmtu_any (u : Nat) (hu64 : u < 18446744073709551616) (w : World) (htab : Pow10 w) :
    Calls Tryz.prog 57 #[.int .u64 u, .int .i64 10] w fun e w' => e = .returned (.string ⟨(Lib.decDigits u).toArray⟩) ∧ Below w.heap.size w w' := by
  go_enter Tryz.func57, Tryz.ntmps57
  go_wp2_with (go_at_call 77; refine (formatUint_any u hu64 _ htab).mono ?_; rintro e w' ⟨rfl, hb⟩)
  go_ret
  exact ⟨rfl, hb⟩
end Go.Proofs.YtaghjcdlghcjeaaGreatDoor
/- The program's store: Clone, Sweep. -/
namespace Go.Proofs.YtaghjcdlghcjeaaGreatDoor
open Go Go.RowKit Go.Sep

theorem pcells_drop (l : Vers) (n : Nat) : pcells (l.drop n) = (pcells l).drop (n * 2) := by
  induction l generalizing n with
  | nil => simp [pcells]
  | cons p l ih =>
    cases n with
    | zero => rfl
    | succ n =>
      rw [List.drop_succ_cons, ih, show (n + 1) * 2 = n * 2 + 1 + 1 by omega]; rfl
theorem set_same {α : Type} {l : List α} {i : Nat} {x : α} (h : l[i]? = some x) : l.set i x = l := by
  obtain ⟨hi, rfl⟩ := List.getElem?_eq_some_iff.1 h
  exact List.set_getElem_self hi

/-- The last place whose time is not later. -/
def lastLe (at_ : Int) : Nat → Int → Vers → Int
  | _, r, [] => r
  | i, r, p :: l => lastLe at_ (i + 1) (if p.1 ≤ at_ then (i : Int) else r) l
theorem lastLe_range (at_ : Int) : ∀ (l : Vers) (i : Nat) (r : Int), -1 ≤ r → r < i → -1 ≤ lastLe at_ i r l ∧ lastLe at_ i r l < i + l.length
  | [], i, r, h1, h2 => by simp [lastLe]; omega
  | p :: l, i, r, h1, h2 => by
    have := lastLe_range at_ l (i + 1) (if p.1 ≤ at_ then (i : Int) else r) (by split <;> omega) (by split <;> omega)
    simp only [lastLe, List.length_cons]; omega
/-- What Sweep leaves of a key's versions; and how many it drops. -/
def swept (at_ : Int) (vs : Vers) : Vers := vs.drop (lastLe at_ 0 (-1) vs).toNat
def sweptN (at_ : Int) (vs : Vers) : Nat := (lastLe at_ 0 (-1) vs).toNat
def sweepTo (at_ : Int) (V : List Vers) (i : Nat) : List Vers := (V.take i).map (swept at_) ++ V.drop i
theorem sweepTo_succ {at_ : Int} {V : List Vers} {i : Nat} {vs : Vers} (h : V[i]? = some vs) : sweepTo at_ V (i + 1) = (sweepTo at_ V i).set i (swept at_ vs) := by
  obtain ⟨hi, rfl⟩ := List.getElem?_eq_some_iff.1 h
  unfold sweepTo
  have e : i - ((V.take i).map (swept at_)).length = 0 := by simp; omega
  rw [take_succ_get h, List.map_append, List.append_assoc, List.set_append_right _ _ (by simp; omega), e, List.drop_eq_getElem_cons hi, List.set_cons_zero]
  rfl
theorem sweepTo_get {at_ : Int} {V : List Vers} {i j : Nat} (h : i ≤ j) (hi : i ≤ V.length) : (sweepTo at_ V i)[j]? = V[j]? := by
  unfold sweepTo
  rw [List.getElem?_append_right (by simp; omega), List.getElem?_drop]
  congr 1; simp; omega
theorem sweepTo_length {at_ : Int} {V : List Vers} {i : Nat} : (sweepTo at_ V i).length = V.length := by unfold sweepTo; simp; omega
def sweptSum (at_ : Int) (V : List Vers) (i : Nat) : Nat := ((V.take i).map (sweptN at_)).sum
theorem sweptSum_succ {at_ : Int} {V : List Vers} {i : Nat} {vs : Vers} (h : V[i]? = some vs) : sweptSum at_ V (i + 1) = sweptSum at_ V i + sweptN at_ vs := by
  unfold sweptSum; rw [take_succ_get h, List.map_append, List.sum_append]; simp
theorem swept_same {at_ : Int} {vs : Vers} (h : lastLe at_ 0 (-1) vs ≤ 0) : swept at_ vs = vs ∧ sweptN at_ vs = 0 := by
  unfold swept sweptN; rw [show (lastLe at_ 0 (-1) vs).toNat = 0 by omega]; simp

end Go.Proofs.YtaghjcdlghcjeaaGreatDoor
/- A range over a function, in the words of ownership. No program in sight. -/
namespace Go.Sep
open Go Go.RowKit
variable {P : Program} {w0 w : World} {L : List HProp} {F : Fence} {n : Nat}

theorem S.rot4 {A B C D : HProp} (h : S w0 w (A :: B :: C :: D :: L)) : S w0 w (D :: A :: B :: C :: L) := h.perm (List.perm_middle (l₁ := [A, B, C]))
theorem S.rot5 {A B C D E : HProp} (h : S w0 w (A :: B :: C :: D :: E :: L)) : S w0 w (E :: A :: B :: C :: D :: L) := h.perm (List.perm_middle (l₁ := [A, B, C, D]))
theorem S.head {A : HProp} (h : S w0 w (A :: L)) : S w0 w [A] := by
  have h2 : S w0 w ([A] ++ L) := h
  exact (h2.conv (M := [all L, A]) (by simp only [all_append, all, sep_emp]; rw [sep_comm])).tail
theorem S.of_mem {A : HProp} (h : S w0 w L) (hA : A ∈ L) : S w0 w [A] := by
  obtain ⟨s, t, rfl⟩ := List.append_of_mem hA
  exact (h.perm (List.perm_middle)).head
/-- A cell of one block of the list is written. -/
theorem S.set_nth (A : List HProp) {B : List HProp} {b : Nat} {e : TypeId} {vs : List Value} (h : S w0 w (A ++ blk b e vs :: B)) (j : Nat) (hj : j < vs.length) (u : Value) : S w0 (w.setCell ⟨b, j, none⟩ u) (A ++ blk b e (vs.set j u) :: B) :=
  ((h.perm List.perm_middle).blk_set j hj u).perm List.perm_middle.symm
theorem S.loop_put {l : Nat} {r r' : Loop} (h : S w0 w (ob l (.loop r) :: L)) : S w0 (w.putObj l (.loop r')) (ob l (.loop r') :: L) := h.set_obj (o' := .loop r') (by simp) (by simp)
theorem S.deferred_put {l : Nat} {d d' : Option (List Deferred)} (h : S w0 w (ob l (.deferred d) :: L)) : S w0 (w.putObj l (.deferred d')) (ob l (.deferred d') :: L) := h.set_obj (o' := .deferred d') (by simp) (by simp)

/-- A round, out of the walks of its two parts. -/
theorem yieldAt_S {l : Nat} {r : Loop} {args : Array Value} {R : Ending → World → Prop} (h : S w0 w (ob l (.loop r) :: L)) (hs : args.size = r.params.size) (hF : F.fn r.fn) (hr : r.state = .ready)
    (hw : r.assign.wpIn (F.inRound l) n P (Exit.then (fun a₁ w₁ => ∃ M, S w0 w₁ (ob l (.loop r) :: M) ∧ ∀ w₂, S w0 w₂ (ob l (.loop { r with state := .busy }) :: M) → r.body.wpIn (F.inRound l) n P (roundPost P l R) a₁ w₂) (fun _ _ _ => False))
      { tmps := (r.params.zip args).foldl (fun tmps (t, a) => tmps.setIfInBounds t a) r.tmps, defers := [] } w) :
    YieldAt F n P l args w R := by
  refine ⟨r.fn, _, r.assign, r.body, run_yield h.obj hs, roundIn_of_wpIn hF ?_⟩
  refine Code.wpIn_mono ?_ hw
  intro e a₁ w₁ hq
  cases e <;> simp only [Exit.then] at hq ⊢
  obtain ⟨M, hS, hb⟩ := hq
  exact ⟨_, run_beginRound hS.obj hr, hb _ hS.loop_put⟩

theorem roundPost_normal {l : Nat} {r : Loop} {R : Ending → World → Prop} {a : Act} (h : S w0 w (ob l (.loop r) :: L)) (hR : ∀ w', S w0 w' (ob l (.loop { r with state := .ready, pending := none }) :: L) → R (.returned (.bool true)) w') : roundPost P l R .normal a w :=
  ⟨_, _, run_endRound none h.obj, hR _ (by simpa using h.loop_put)⟩
theorem roundPost_ret {l : Nat} {r : Loop} {R : Ending → World → Prop} {a : Act} (h : S w0 w (ob l (.loop r) :: L)) (hR : ∀ w', S w0 w' (ob l (.loop { r with state := .done, pending := some .ret }) :: L) → R (.returned (.bool false)) w') : roundPost P l R .ret a w :=
  ⟨_, _, run_endRound (some .ret) h.obj, hR _ (by simpa using h.loop_put)⟩

/-- The statement, at an outermost loop. -/
theorem wpIn_rangeFunc_S {g : Operand} {ps : Array Tmp} {assign body : Code} {Q : Exit → Act → World → Prop} {a : Act} (hro : F.round = none) (hn : F.depth.isSome = true → 1 ≤ n) {gf : FuncId} {cap : Array Value}
    (hg : a.eval g = .func (.func gf) #[] cap) (hF : F.fn gf) (eg : ∀ args w, (callFunc gf args).run P w = .ok (.enter gf args) w)
    (hs : S w0 w L)
    (hc : ∀ fn l D w2, S w0 w2 (ob l (.loop { state := .ready, pending := none, fn, tmps := a.tmps, params := ps, assign, body, defers := D }) :: ob D (.deferred (some [])) :: L) →
      CallsIn F (n - 1) P gf (#[.func (.yield l) #[] #[]] ++ cap) w2 fun e w3 => ∃ v, e = .returned v ∧ ∃ r M, S w0 w3 (ob l (.loop r) :: M) ∧ r.state ≠ .busy ∧
        ∀ w4, S w0 w4 M → match r.pending with | none => Q .normal { a with defers := { target := .collected D, args := #[] } :: a.defers } w4 | some c => c.wpIn F n P Q { a with defers := { target := .collected D, args := #[] } :: a.defers } w4) :
    (Code.rangeFunc g ps assign body).wpIn F n P Q a w := by
  refine wpIn_rangeFunc fun fn hfnF => ?_
  rw [hro]
  have h1 := ((hs.alloc_obj (.deferred (some [])) (by simp)).alloc_obj (.loop { state := .ready, pending := none, fn, tmps := a.tmps, params := ps, assign, body, defers := w.heap.size }) (by simp))
  have he := run_enterLoop_outer (P := P) (w := w) fn a.tmps ps assign body
  rw [World.size_alloc] at h1
  generalize (w.alloc (.deferred (some []))).alloc (.loop { state := .ready, pending := none, fn, tmps := a.tmps, params := ps, assign, body, defers := w.heap.size }) = W1 at h1 he
  refine ⟨w.heap.size + 1, [{ target := .collected w.heap.size, args := #[] }], W1, { target := .fn (.func gf) cap, args := #[.func (.yield (w.heap.size + 1)) #[] #[]] }, W1, gf,
    #[.func (.yield (w.heap.size + 1)) #[] #[]] ++ cap, W1, he, ?_, ?_, ?_, hn, ?_⟩
  · simp only [resolve, hg]
    simp [go_sem]
  · intro f' hf'; simp [Target.leads] at hf'; subst hf'; exact hF
  · simp [invoke, go_sem, eg]
  ·
    refine (hc fn _ _ _ h1).mono ?_
    rintro e w3 ⟨v, rfl, r, M, hS, hb, hq⟩
    exact ⟨_, _, run_endLoop hS.obj hb, hq _ (hS.loop_put (r' := { r with state := .exhausted })).tail⟩
end Go.Sep
/- The program's store: Read (a range over slices.Backward). -/
namespace Go.Proofs.YtaghjcdlghcjeaaGreatDoor
open Go Go.RowKit Go.Sep
attribute [local go_sem] Oper.semAt_some

/-- slices.Backward: the slice's value is boxed; the function value captures the box. -/
theorem backward_any (a0 : Option Addr) (n0 cap : Nat) (w : World) (n : Nat) :
    CallsIn Fence.wide n Tryz.prog 42 #[.slice a0 n0 cap] w fun e w' => e = .returned (.func (.func 61) #[] #[.pointer (some ⟨w.heap.size, 0, none⟩)]) ∧ w' = w.alloc (.cells #[.slice a0 n0 cap] 59) := by
  refine callsIn_of_wp Tryz.func42 rfl trivial ?_ rfl
  simp only [Tryz.ntmps42, List.size_toArray, List.length_cons, List.length_nil, Nat.reduceAdd, Nat.reduceSub, Array.replicate_succ, Array.replicate_zero, List.push_toArray, List.append_toArray, List.nil_append, List.cons_append]
  gi_wp2
  go_ret
  exact ⟨rfl, rfl⟩

set_option maxRecDepth 100000 in
set_option maxHeartbeats 2000000 in
/-- Its closure: from behind; a round says whether it goes on. -/
theorem backward_in (n : Nat) (hn : 1 ≤ n) (l Bs : Nat) (a0 : Option Addr) (cap : Nat) (vs : Vers) (hvl : vs.length ≤ 4000000) (J : Nat → World → Prop) (Jx : World → Prop)
    (hY : ∀ i p W, vs[i]? = some p → J (i + 1) W → YieldAt Fence.wide (n - 1) Tryz.prog l #[.int .i64 (i : Int), .agg #[.int .i64 p.1, .int .i64 p.2]] W fun e W' => (e = .returned (.bool true) ∧ J i W') ∨ (e = .returned (.bool false) ∧ Jx W'))
    (hJ : ∀ i W, J i W → W.cell? ⟨Bs, 0, none⟩ = some (.slice a0 vs.length cap) ∧ ∀ i p, vs[i]? = some p → ∃ b o, a0 = some ⟨b, o, none⟩ ∧ W.cell? ⟨b, o + i * 2, none⟩ = some (.int .i64 p.1) ∧ W.cell? ⟨b, o + i * 2 + 1, none⟩ = some (.int .i64 p.2))
    (W : World) (h0 : J vs.length W) :
    CallsIn Fence.wide n Tryz.prog 61 #[.func (.yield l) #[] #[], .pointer (some ⟨Bs, 0, none⟩)] W fun e W' => (∃ v, e = .returned v) ∧ (J 0 W' ∨ Jx W') := by
  have hB := (hJ _ W h0).1
  refine callsIn_of_wp Tryz.func61 rfl trivial ?_ rfl
  simp only [Tryz.ntmps61, List.size_toArray, List.length_cons, List.length_nil, Nat.reduceAdd, Nat.reduceSub, Array.replicate_succ, Array.replicate_zero, List.push_toArray, List.append_toArray, List.nil_append, List.cons_append]
  gi_wp2
  gi_loopw [3] (fun i wr => ∃ k : Nat, k ≤ vs.length ∧ i = .int .i64 ((k : Int) - 1) ∧ J k wr) (fun i _ => (intOf i + 1).toNat)
  case atStart => exact ⟨vs.length, Nat.le_refl _, rfl, h0⟩
  case round =>
    obtain ⟨k, hk, rfl, hJs⟩ := hrel
    clear hB
    cases k with
    | zero =>
      gi_wp2
      go_end0
      exact ⟨⟨_, rfl⟩, .inl hJs⟩
    | succ k =>
      have e1 : ((k + 1 : Nat) : Int) - 1 = k := by omega
      rw [e1]
      obtain ⟨p, hp⟩ : ∃ p, vs[k]? = some p := ⟨vs[k], by simp⟩
      obtain ⟨hB, hE⟩ := hJ _ wr hJs
      obtain ⟨b, o, rfl, c1, c2⟩ := hE k p hp
      obtain ⟨fn, tmps, assign, body, hy, hR⟩ := hY k p wr hp hJs
      clear hE hp
      gi_wp2
      refine hR.mono ?_
      rintro e W3 (⟨rfl, hJ3⟩ | ⟨rfl, hJx3⟩)
      · gi_wp2
        go_roundw
        case rel => exact ⟨k, by omega, rfl, hJ3⟩
        case measure => simp [intOf]
      · gi_wp2
        refine bodyPost_ret (results_none rfl _ _ _) rfl ?_
        exact ⟨⟨_, rfl⟩, .inr hJx3⟩

/-- The latest version that is not later. -/
def readV (vs : Vers) (at_ : Int) : Option (Int × Int) := vs.reverse.find? fun p => decide (p.1 ≤ at_)

theorem readV_of {vs : Vers} {i : Nat} {p : Int × Int} {at_ : Int} (hp : vs[i]? = some p) (hle : p.1 ≤ at_) (h : ∀ j q, i + 1 ≤ j → vs[j]? = some q → ¬ q.1 ≤ at_) : readV vs at_ = some p := by
  obtain ⟨hi, rfl⟩ := List.getElem?_eq_some_iff.1 hp
  have e : vs = vs.take i ++ (vs[i] :: vs.drop (i + 1)) := by rw [← List.drop_eq_getElem_cons hi, List.take_append_drop]
  have hn : (vs.drop (i + 1)).reverse.find? (fun p => decide (p.1 ≤ at_)) = none := by
    rw [List.find?_eq_none]
    intro q hq
    obtain ⟨j, hj⟩ := List.getElem?_of_mem (List.mem_reverse.1 hq)
    rw [List.getElem?_drop] at hj
    simpa using h _ q (by omega) hj
  unfold readV
  generalize hx : vs[i] = x at e hle hn ⊢
  rw [e, List.reverse_append, List.reverse_cons, List.find?_append, List.find?_append, hn]
  simp [hle]
theorem readV_none {vs : Vers} {at_ : Int} (h : ∀ j q, 0 ≤ j → vs[j]? = some q → ¬ q.1 ≤ at_) : readV vs at_ = none := by
  unfold readV
  rw [List.find?_eq_none]
  intro q hq
  obtain ⟨j, hj⟩ := List.getElem?_of_mem (List.mem_reverse.1 hq)
  simpa using h j q (by omega) hj
set_option maxRecDepth 100000 in
theorem read_no (b o : Nat) (k at_ : Int) (w0 w : World) (L : List HProp) (hs : S w0 w L) (hk : ¬ keyOk k) :
    Calls Tryz.prog 26 #[.pointer (some ⟨b, o, none⟩), .int .i64 k, .int .i64 at_] w fun e w' => e = .returned (.tuple #[.agg #[.int .i64 0, .int .i64 0], .iface 56 (.int .i64 2)]) ∧ S w0 w' L := by
  have hk1 : decide (keyOk k) = false := by simpa using hk
  have hb : ∀ w', Below w.heap.size w w' → S w0 w' L := fun w' h => hs.onto h
  have HB := hid hb; clear hb hs
  go_enter Tryz.func26, Tryz.ntmps26
  go_wp2_with (first | (go_at_call 40; refine (right_any _ _).mono ?_; rintro e w' ⟨rfl, rfl⟩))
  exact bodyPost_ret (v := .tuple #[.agg #[.int .i64 0, .int .i64 0], .iface 56 (.int .i64 2)]) (by simp [results, Tryz.results26, go_sem]) rfl ⟨rfl, HB.out _ ((((Below.refl _ _).alloc (Nat.le_refl _) _).alloc (by simp) _).alloc (by simp; omega) _)⟩

/-- What Read answers of a key that there is. -/
def readAns (r : Option (Int × Int)) : Value := match r with
  | some p => .tuple #[.agg #[.int .i64 p.1, .int .i64 p.2], .nilIface]
  | none => .tuple #[.agg #[.int .i64 0, .int .i64 0], .iface 56 (.int .i64 8)]

set_option maxRecDepth 100000 in
set_option maxHeartbeats 4000000 in
theorem read_any (b o : Nat) (V : List Vers) (last at_ : Int) (k : Nat) (vs : Vers) (w0 w : World) (L : List HProp) (hk : k < 10)
    (hs : S w0 w (storeP 84 b o V last :: L)) (hV : V[k]? = some vs) (hb : vs.length ≤ 2000000) :
    Calls Tryz.prog 26 #[.pointer (some ⟨b, o, none⟩), .int .i64 k, .int .i64 at_] w fun e w' => e = .returned (readAns (readV vs at_)) ∧ S w0 w' (storeP 84 b o V last :: L) := by
  have hk1 : decide (keyOk (k : Int)) = true := decide_eq_true ⟨by omega, by omega⟩
  obtain ⟨v, vs', X, hVk, hsk, hcell, hback, -, -⟩ := hs.store_key k hk
  obtain rfl : vs = vs' := Option.some.inj (hV.symm.trans hVk)
  obtain ⟨a0, cp, rfl, hcp, hcp2, _⟩ := hsk.sl_val
  have hsA := ((hsk.alloc #[.int .i64 at_] 3).alloc #[.int .i64 0, .int .i64 0] 84).alloc #[.nilIface] 31
  obtain ⟨c3, _, _⟩ := hcell _ hsA.tail.tail.tail.tail
  have hs1 := hsA.alloc #[.slice a0 vs.length cp] 59
  simp only [World.size_alloc] at hs1
  clear hsA
  clear hcp2 hs hV hVk hcell
  have H1 := hid hs1; have HK := hid hsk
  clear hs1 hsk
  refine (callsIn_wide (n := 3)).1 ?_
  refine callsIn_of_wp_marks Tryz.func26 rfl trivial ?_
  simp only [Tryz.ntmps26, List.size_toArray, List.length_cons, List.length_nil, Nat.reduceAdd, Nat.reduceSub, Array.replicate_succ, Array.replicate_zero, List.push_toArray, List.append_toArray, List.nil_append, List.cons_append]
  gi_wp2_with (refine ⟨trivial, ?_⟩; gi_at_call 40; refine (callsIn_wide.2 (right_any _ _)).mono ?_; rintro e w' ⟨rfl, rfl⟩)
  refine ⟨trivial, ?_⟩
  refine (backward_any _ _ _ _ _).mono ?_
  rintro e w' ⟨rfl, rfl⟩
  gi_wp2
  refine wpIn_rangeFunc_S rfl (fun h => by cases h) rfl trivial (enters_of Tryz.func61 (by kernel_rfl) rfl) H1.out ?_
  intro fn l D W2 hS2
  generalize hrec : Loop.mk LoopState.ready none fn _ _ _ _ D = rec at hS2
  have HR := hid hrec
  clear hrec
  refine (backward_in 2 (by omega) l (w.heap.size + 1 + 1 + 1) a0 cp vs (by omega)
    (fun i W => S w0 W (ob l (.loop rec) :: ob D (.deferred (some [])) :: blk (w.heap.size + 1 + 1 + 1) 59 [.slice a0 vs.length cp] :: blk (w.heap.size + 1 + 1) 31 [.nilIface] :: blk (w.heap.size + 1) 84 [.int .i64 0, .int .i64 0] :: blk w.heap.size 3 [.int .i64 at_] :: sl 84 2 (.slice a0 vs.length cp) vs.length (pcells vs) :: X :: L) ∧ ∀ j p, i ≤ j → vs[j]? = some p → ¬ p.1 ≤ at_)
    (fun W => ∃ p, readV vs at_ = some p ∧ S w0 W (ob l (.loop { rec with state := .done, pending := some .ret }) :: ob D (.deferred (some [])) :: blk (w.heap.size + 1 + 1 + 1) 59 [.slice a0 vs.length cp] :: blk (w.heap.size + 1 + 1) 31 [.nilIface] :: blk (w.heap.size + 1) 84 [.int .i64 p.1, .int .i64 p.2] :: blk w.heap.size 3 [.int .i64 at_] :: sl 84 2 (.slice a0 vs.length cp) vs.length (pcells vs) :: X :: L)) ?yield ?facts W2 ⟨by simpa using hS2, fun j p hj hp => by have := (List.getElem?_eq_some_iff.1 hp).1; omega⟩).mono ?after
  case facts =>
    rintro i W ⟨hS, _⟩
    refine ⟨(hS.of_mem (A := blk (w.heap.size + 1 + 1 + 1) 59 [.slice a0 vs.length cp]) (by simp)).blk_cell 0 rfl, fun i p hp => ?_⟩
    obtain ⟨g, og, hg, _, c1, c2⟩ := (hS.of_mem (A := sl 84 2 (.slice a0 vs.length cp) vs.length (pcells vs)) (by simp)).sl_pair hp
    exact ⟨g, og, hg, c1, c2⟩
  case yield =>
    rintro i p W hp ⟨hS, hlate⟩
    have hR := HR.out
    subst hR
    refine yieldAt_S hS rfl trivial rfl ?_
    have HS := hid hS
    clear hS
    dsimp only
    gi_wp2
    refine ⟨_, (HS.out.alloc #[.int .i64 p.1, .int .i64 p.2] 84).swap, fun w₂ hS₂ => ?_⟩
    have d0 := (hS₂.of_mem (A := blk W.heap.size 84 [.int .i64 p.1, .int .i64 p.2]) (by simp)).blk_cell 0 rfl
    have d0' := (hS₂.of_mem (A := blk W.heap.size 84 [.int .i64 p.1, .int .i64 p.2]) (by simp)).blk_cell 1 rfl
    have hB2 := hS₂.of_mem (A := blk (w.heap.size + 1) 84 [.int .i64 0, .int .i64 0]) (by simp)
    have hB1 := hS₂.of_mem (A := blk (w.heap.size + 1 + 1) 31 [.nilIface]) (by simp)
    have d1 := (hS₂.of_mem (A := blk w.heap.size 3 [.int .i64 at_]) (by simp)).blk_cell 0 rfl
    have d2 := hB2.blk_cell 0 rfl
    have d3 := hB2.blk_cell 1 rfl
    have d4 := hB1.blk_cell 0 rfl
    have f2 := hB2.blk_free 0
    have f3 := hB2.blk_free 1
    have f4 := hB1.blk_free 0
    clear hB1 hB2
    have HS2 := hid hS₂
    clear hS₂
    by_cases hle : p.1 ≤ at_
    · have hfind : readV vs at_ = some p := readV_of hp hle (fun j q h1 h2 => by have := hlate j q h1 h2; omega)
      have HF := hid hfind
      have hfin : S w0 (((w₂.setCell ⟨w.heap.size + 1, 0, none⟩ (.int .i64 p.1)).setCell ⟨w.heap.size + 1, 1, none⟩ (.int .i64 p.2)).setCell ⟨w.heap.size + 1 + 1, 0, none⟩ .nilIface) _ :=
        S.set_nth [_, _, _, _] (S.set_nth [_, _, _, _, _] (S.set_nth [_, _, _, _, _] HS2.out 0 (by simp) (.int .i64 p.1)) 1 (by simp) (.int .i64 p.2)) 0 (by simp) .nilIface
      have HN := hid hfin
      clear hfind hfin HS2 HS
      gi_wp2
      refine roundPost_ret HN.out (fun w' h => .inr ⟨rfl, p.1, p.2, HF.out, h.swap.tail⟩)
    · gi_wp2
      refine roundPost_normal HS2.out (fun w' h => .inl ⟨rfl, h.swap.tail, fun j q1 q2 hj hq => ?_⟩)
      rcases Nat.eq_or_lt_of_le hj with rfl | hj
      · obtain rfl : p = (q1, q2) := Option.some.inj (hp.symm.trans hq)
        simpa using hle
      · simpa using hlate j (q1, q2) hj hq
  case after =>
    rintro e W ⟨hv, hq⟩
    rcases hq with ⟨hS, hlate⟩ | ⟨p, hp, hS⟩
    · have hfind := readV_none hlate
      have hR := HR.out
      subst hR
      refine hv.imp fun v hv => ⟨hv, _, _, hS, by simp, fun w4 hS4 => ?_⟩
      dsimp only
      have hB2 := hS4.of_mem (A := blk (w.heap.size + 1) 84 [.int .i64 0, .int .i64 0]) (by simp)
      have hB1 := hS4.of_mem (A := blk (w.heap.size + 1 + 1) 31 [.nilIface]) (by simp)
      have d2 := hB2.blk_cell 0 rfl
      have d3 := hB2.blk_cell 1 rfl
      have d4 := hB1.blk_cell 0 rfl
      have f2 := hB2.blk_free 0
      have f3 := hB2.blk_free 1
      have f4 := hB1.blk_free 0
      have hfin : S w0 (((w4.setCell ⟨w.heap.size + 1, 0, none⟩ (.int .i64 0)).setCell ⟨w.heap.size + 1, 1, none⟩ (.int .i64 0)).setCell ⟨w.heap.size + 1 + 1, 0, none⟩ (.iface 56 (.int .i64 8))) _ :=
        S.set_nth [_, _] (S.set_nth [_, _, _] (S.set_nth [_, _, _] hS4 0 (by simp) (.int .i64 0)) 1 (by simp) (.int .i64 0)) 0 (by simp) (.iface 56 (.int .i64 8))
      have HN := hid hfin; have HF := hid hfind
      clear hS4 hfin hS hfind hB1 hB2
      gi_wp2
      refine ⟨by simp, .inl ⟨D, _, rfl, run_takeDeferred (HN.out).obj, ?_⟩⟩
      have hSp := (HN.out).deferred_put (d' := none)
      have e1 := (hSp.of_mem (A := blk (w.heap.size + 1) 84 [.int .i64 0, .int .i64 0]) (by simp)).blk_cell 0 rfl
      have e2 := (hSp.of_mem (A := blk (w.heap.size + 1) 84 [.int .i64 0, .int .i64 0]) (by simp)).blk_cell 1 rfl
      have e3 := (hSp.of_mem (A := blk (w.heap.size + 1 + 1) 31 [.iface 56 (.int .i64 8)]) (by simp)).blk_cell 0 rfl
      refine ⟨readAns none, ?_, by rw [HF.out], hback _ L hSp.tail.tail.tail.tail.tail⟩
      simp [results, Tryz.f26, go_sem, e1, e2, e3, readAns]
    · have hR := HR.out
      subst hR
      refine hv.imp fun v hv => ⟨hv, _, _, hS, by simp, fun w4 hS4 => ?_⟩
      dsimp only
      have HN := hid hS4; have HF := hid hp
      clear hS4 hS hp
      gi_wp2
      refine ⟨by simp, .inl ⟨D, _, rfl, run_takeDeferred (HN.out).obj, ?_⟩⟩
      have hSp := (HN.out).deferred_put (d' := none)
      have e1 := (hSp.of_mem (A := blk (w.heap.size + 1) 84 [.int .i64 p.1, .int .i64 p.2]) (by simp)).blk_cell 0 rfl
      have e2 := (hSp.of_mem (A := blk (w.heap.size + 1) 84 [.int .i64 p.1, .int .i64 p.2]) (by simp)).blk_cell 1 rfl
      have e3 := (hSp.of_mem (A := blk (w.heap.size + 1 + 1) 31 [.nilIface]) (by simp)).blk_cell 0 rfl
      refine ⟨readAns (some p), ?_, by rw [HF.out], hback _ L hSp.tail.tail.tail.tail.tail⟩
      simp [results, Tryz.f26, go_sem, e1, e2, e3, readAns]
end Go.Proofs.YtaghjcdlghcjeaaGreatDoor
/- Sweeping is not seen: the plain law, on lists of versions. No walk in sight. -/
namespace Go.Proofs.YtaghjcdlghcjeaaGreatDoor
open Go Go.RowKit Go.Sep

theorem lastLe_spec (at_ : Int) : ∀ (l : Vers) (i : Nat) (r : Int), (lastLe at_ i r l = r ∧ ∀ p ∈ l, at_ < p.1) ∨
    ∃ (j : Nat) (p : Int × Int), lastLe at_ i r l = i + j ∧ l[j]? = some p ∧ p.1 ≤ at_ ∧ ∀ j' q, j < j' → l[j']? = some q → at_ < q.1
  | [], i, r => .inl ⟨rfl, by simp⟩
  | p :: l, i, r => by
    by_cases hp : p.1 ≤ at_
    · rcases lastLe_spec at_ l (i + 1) i with ⟨h1, h2⟩ | ⟨j, q, h1, h2, h3, h4⟩
      · refine .inr ⟨0, p, by simp [lastLe, hp, h1], rfl, hp, fun j' q hj hq => ?_⟩
        cases j' with
        | zero => omega
        | succ j' => exact h2 q (List.mem_of_getElem? (by simpa using hq))
      · refine .inr ⟨j + 1, q, by simp [lastLe, hp, h1]; omega, by simpa using h2, h3, fun j' q' hj hq => ?_⟩
        cases j' with
        | zero => omega
        | succ j' => exact h4 j' q' (by omega) (by simpa using hq)
    · rcases lastLe_spec at_ l (i + 1) r with ⟨h1, h2⟩ | ⟨j, q, h1, h2, h3, h4⟩
      · refine .inl ⟨by simp [lastLe, hp, h1], fun q hq => ?_⟩
        cases hq with
        | head => omega
        | tail _ hq => exact h2 q hq
      · refine .inr ⟨j + 1, q, by simp [lastLe, hp, h1]; omega, by simpa using h2, h3, fun j' q' hj hq => ?_⟩
        cases j' with
        | zero => omega
        | succ j' => exact h4 j' q' (by omega) (by simpa using hq)
/-- What Sweep does, in words. -/
theorem sweptN_spec (at_ : Int) (vs : Vers) : (sweptN at_ vs = 0 ∨ ∃ p, vs[sweptN at_ vs]? = some p ∧ p.1 ≤ at_) ∧ (∀ j q, sweptN at_ vs < j → vs[j]? = some q → at_ < q.1) ∧ sweptN at_ vs ≤ vs.length ∧ swept at_ vs = vs.drop (sweptN at_ vs) := by
  refine ⟨?_, ?_, ?_, rfl⟩
  all_goals
    unfold sweptN
    rcases lastLe_spec at_ vs 0 (-1) with ⟨h1, h2⟩ | ⟨j, q, h1, h2, h3, h4⟩
  · left; rw [h1]; rfl
  · right; rw [h1]; simp only [Int.natCast_zero, Int.zero_add, Int.toNat_natCast]; exact ⟨q, h2, h3⟩
  · intro j q _ hq; exact h2 q (List.mem_of_getElem? hq)
  · intro j' q' hj hq; rw [h1] at hj; exact h4 j' q' (by simpa using hj) hq
  · rw [h1]; simp
  · rw [h1]; have := (List.getElem?_eq_some_iff.1 h2).1; simp; omega
theorem sweptN_twice (at_ : Int) (vs : Vers) : sweptN at_ (swept at_ vs) = 0 := by
  obtain ⟨h1, h2, h3, h4⟩ := sweptN_spec at_ vs
  obtain ⟨k1, k2, k3, k4⟩ := sweptN_spec at_ (swept at_ vs)
  rcases k1 with k1 | ⟨p, hp, hle⟩
  · exact k1
  · rcases Nat.eq_zero_or_pos (sweptN at_ (swept at_ vs)) with h0 | h0
    · exact h0
    · generalize sweptN at_ (swept at_ vs) = n at hp h0
      rw [h4, List.getElem?_drop] at hp
      have := h2 _ p (by omega) hp
      omega

/-- What has not been swept, and what has: only what nobody sees as of 'at_' is dropped. -/
def Rel (at_ : Int) (a b : Vers) : Prop := ∃ m, b = a.drop m ∧ (m = 0 ∨ ∃ p, a[m]? = some p ∧ p.1 ≤ at_) ∧ a.Pairwise (fun p q => p.1 ≤ q.1)
theorem Rel.nil (at_ : Int) : Rel at_ [] [] := ⟨0, rfl, .inl rfl, by simp⟩
theorem Rel.sweep {at_ at' : Int} {a b : Vers} (h : Rel at_ a b) (hle : at' ≤ at_) : Rel at_ a (swept at' b) := by
  obtain ⟨m, rfl, hm, hs⟩ := h
  obtain ⟨h1, h2, h3, h4⟩ := sweptN_spec at' (a.drop m)
  refine ⟨m + sweptN at' (a.drop m), by rw [h4, List.drop_drop], ?_, hs⟩
  rcases h1 with h1 | ⟨p, hp, hp'⟩
  · rw [h1, Nat.add_zero]; exact hm
  · right; exact ⟨p, by rw [List.getElem?_drop] at hp; exact hp, by omega⟩
/-- One write of one key. -/
def puts (at_ : Int) (vs : Vers) (v : Int) : Vers := if (vs.getLast?.map (·.1)) = some at_ then vs.dropLast ++ [(at_, v)] else vs ++ [(at_, v)]
theorem puts_le {t : Int} {vs : Vers} {v : Int} (h : ∀ p ∈ vs, p.1 ≤ t) : ∀ p ∈ puts t vs v, p.1 ≤ t := by
  unfold puts
  intro p hp
  split at hp
  · rcases List.mem_append.1 hp with hp | hp
    · exact h p (List.dropLast_subset _ hp)
    · simp at hp; subst hp; exact Int.le_refl _
  · rcases List.mem_append.1 hp with hp | hp
    · exact h p hp
    · simp at hp; subst hp; exact Int.le_refl _
theorem Rel.puts {at_ t : Int} {a b : Vers} (v : Int) (h : Rel at_ a b) (ht : ∀ p ∈ a, p.1 ≤ t) : Rel at_ (puts t a v) (puts t b v) := by
  obtain ⟨m, rfl, hm, hs⟩ := h
  have hmle : m = 0 ∨ m < a.length := hm.imp id fun ⟨p, hp, _⟩ => (List.getElem?_eq_some_iff.1 hp).1
  have hlast : (a.drop m).getLast? = a.getLast? := by
    rcases hmle with rfl | h
    · rfl
    · rw [List.getLast?_drop, if_neg (by omega)]
  unfold Proofs.YtaghjcdlghcjeaaGreatDoor.puts
  rw [hlast]
  by_cases hl : (a.getLast?.map (·.1)) = some t
  · rw [if_pos hl, if_pos hl]
    have hne : a ≠ [] := by intro e; rw [e] at hl; simp at hl
    have hml : m ≤ a.length - 1 := by have := List.length_pos_iff.2 hne; omega
    refine ⟨m, ?_, ?_, ?_⟩
    · rw [List.drop_append_of_le_length (by simpa using hml), List.dropLast_eq_take, List.dropLast_eq_take, List.length_drop, List.drop_take]
      congr 2; omega
    · rcases hm with rfl | ⟨p, hp, hle⟩
      · exact .inl rfl
      · right
        have hlt := (List.getElem?_eq_some_iff.1 hp).1
        rcases Nat.lt_or_ge m (a.length - 1) with hx | hx
        · exact ⟨p, by rw [List.getElem?_append_left (by simpa using hx), List.getElem?_dropLast, if_pos (by omega)]; exact hp, hle⟩
        · have hme : m = a.length - 1 := by omega
          refine ⟨(t, v), by rw [List.getElem?_append_right (by simp; omega), hme]; simp, ?_⟩
          have : a.getLast? = some p := by rw [List.getLast?_eq_getElem?, ← hme]; exact hp
          rw [this] at hl; simp at hl; simp only; omega
    · rw [List.pairwise_append]
      refine ⟨hs.sublist (List.dropLast_sublist _), by simp, ?_⟩
      intro p hp q hq; simp at hq; subst hq; exact ht p (List.dropLast_subset _ hp)
  · rw [if_neg hl, if_neg hl]
    refine ⟨m, ?_, ?_, ?_⟩
    · rcases hmle with rfl | h
      · rfl
      · rw [List.drop_append_of_le_length (by omega)]
    · rcases hm with rfl | ⟨p, hp, hle⟩
      · exact .inl rfl
      · right; exact ⟨p, by rw [List.getElem?_append_left (List.getElem?_eq_some_iff.1 hp).1]; exact hp, hle⟩
    · rw [List.pairwise_append]
      refine ⟨hs, by simp, ?_⟩
      intro p hp q hq; simp at hq; subst hq; exact ht p hp
theorem Rel.early {at_ see : Int} {a : Vers} {m : Nat} (hm : m = 0 ∨ ∃ p, a[m]? = some p ∧ p.1 ≤ at_) (hs : a.Pairwise (fun p q => p.1 ≤ q.1)) (hle : at_ ≤ see) : ∀ p ∈ a.take m, p.1 ≤ see := by
  rcases hm with rfl | ⟨q, hq, hq'⟩
  · simp
  · intro p hp
    obtain ⟨hm, hqe⟩ := List.getElem?_eq_some_iff.1 hq
    have : a = a.take m ++ a.drop m := (List.take_append_drop m a).symm
    rw [this, List.pairwise_append] at hs
    have := hs.2.2 p hp q (by rw [← hqe, List.drop_eq_getElem_cons hm]; exact List.mem_cons_self)
    omega
theorem Rel.newer {at_ see : Int} {a b : Vers} (h : Rel at_ a b) (hle : at_ ≤ see) : newerL a see = newerL b see := by
  obtain ⟨m, rfl, hm, hs⟩ := h
  have he := Rel.early hm hs hle
  unfold newerL
  conv => lhs; rw [← List.take_append_drop m a, List.filter_append]
  rw [List.filter_eq_nil_iff.2 (fun p hp => by have := he p hp; simp; omega), List.nil_append]
theorem Rel.read {at_ see : Int} {a b : Vers} (h : Rel at_ a b) (hle : at_ ≤ see) : readV a see = readV b see := by
  obtain ⟨m, rfl, hm, hs⟩ := h
  unfold readV
  conv => lhs; rw [← List.take_append_drop m a, List.reverse_append, List.find?_append]
  rcases hm with rfl | ⟨q, hq, hq'⟩
  · simp
  · obtain ⟨hm, hqe⟩ := List.getElem?_eq_some_iff.1 hq
    have : ((a.drop m).reverse.find? fun p => decide (p.1 ≤ see)).isSome := by
      rw [List.find?_isSome]
      exact ⟨q, by rw [List.mem_reverse, ← hqe, List.drop_eq_getElem_cons hm]; exact List.mem_cons_self, by simp; omega⟩
    obtain ⟨x, hx⟩ := Option.isSome_iff_exists.1 this
    rw [hx]; rfl

/-- Two stores, key by key. -/
def RelV (at_ last : Int) (A B : List Vers) : Prop := A.length = B.length ∧ ∀ (k : Nat) (a b : Vers), A[k]? = some a → B[k]? = some b → Rel at_ a b ∧ ∀ p ∈ a, p.1 ≤ last
theorem RelV.start (at_ : Int) : RelV at_ 0 (List.replicate 10 []) (List.replicate 10 []) := by
  refine ⟨rfl, fun k a b ha hb => ?_⟩
  have h1 := List.eq_of_mem_replicate (List.mem_of_getElem? ha)
  have h2 := List.eq_of_mem_replicate (List.mem_of_getElem? hb)
  subst h1; subst h2
  exact ⟨Rel.nil _, by simp⟩
theorem RelV.sweep {at_ at' last : Int} {A B : List Vers} (h : RelV at_ last A B) (hle : at' ≤ at_) : RelV at_ last A (B.map (swept at')) := by
  refine ⟨by simpa using h.1, fun k a b ha hb => ?_⟩
  rw [List.getElem?_map, Option.map_eq_some_iff] at hb
  obtain ⟨b', hb', rfl⟩ := hb
  exact ⟨(h.2 k a b' ha hb').1.sweep hle, (h.2 k a b' ha hb').2⟩
theorem RelV.put1 {at_ last t : Int} {A B : List Vers} (h : RelV at_ last A B) (hlt : last ≤ t) (p : Int × Int) : RelV at_ t (put1 t A p) (put1 t B p) := by
  refine ⟨by simp [Go.Sep.put1, h.1], fun k a b ha hb => ?_⟩
  unfold Go.Sep.put1 at ha hb
  rw [List.getElem?_set] at ha hb
  by_cases hk : p.1.toNat = k
  · rw [if_pos hk] at ha hb
    split at ha <;> simp at ha
    rename_i hkl
    rw [if_pos (by rw [← h.1]; exact hkl)] at hb
    simp at hb
    have hA : A[p.1.toNat]? = some A[p.1.toNat] := by simp
    have hB : B[p.1.toNat]? = some (B[p.1.toNat]'(by rw [← h.1]; exact hkl)) := by simp
    obtain ⟨r1, r2⟩ := h.2 _ _ _ hA hB
    rw [hA, Option.getD_some] at ha
    rw [hB, Option.getD_some] at hb
    have r2' : ∀ q ∈ A[p.1.toNat], q.1 ≤ t := fun q hq => Int.le_trans (r2 q hq) hlt
    rw [← ha, ← hb]
    exact ⟨r1.puts p.2 r2', puts_le r2'⟩
  · rw [if_neg hk] at ha hb
    exact ⟨(h.2 k a b ha hb).1, fun q hq => Int.le_trans ((h.2 k a b ha hb).2 q hq) hlt⟩
theorem RelV.putAll {at_ t : Int} (l : Vers) : ∀ {last : Int} {A B : List Vers}, RelV at_ last A B → last ≤ t → RelV at_ t (putAll t A l) (putAll t B l) := by
  induction l with
  | nil => intro last A B h hlt; exact ⟨h.1, fun k a b ha hb => ⟨(h.2 k a b ha hb).1, fun q hq => Int.le_trans ((h.2 k a b ha hb).2 q hq) hlt⟩⟩
  | cons p l ih => intro last A B h hlt; exact ih (h.put1 hlt p) (Int.le_refl _)
theorem many_swept (at_ : Int) (V : List Vers) : manyV (V.map (swept at_)) + (V.map (sweptN at_)).sum = manyV V := by
  unfold manyV
  induction V with
  | nil => rfl
  | cons v V ih =>
    obtain ⟨_, _, h3, h4⟩ := sweptN_spec at_ v
    simp only [List.map_cons, List.sum_cons]
    have : (swept at_ v).length + sweptN at_ v = v.length := by rw [h4, List.length_drop]; omega
    omega
theorem swept_twice (at_ : Int) (V : List Vers) : ((V.map (swept at_)).map (sweptN at_)).sum = 0 := by
  induction V with
  | nil => rfl
  | cons v V ih => simp only [List.map_cons, List.sum_cons, sweptN_twice, Nat.zero_add]; exact ih
end Go.Proofs.YtaghjcdlghcjeaaGreatDoor
namespace Go.Sep
open Go Go.RowKit
variable {w0 w : World} {L M : List HProp}
theorem S.left (M : List HProp) (h : S w0 w (M ++ L)) : S w0 w M := by
  have h1 := h.perm (List.perm_append_comm)
  induction L with
  | nil => simpa using h
  | cons P L ih =>
    have h2 : S w0 w (P :: (L ++ M)) := h1
    exact ih (h2.tail.perm List.perm_append_comm) h2.tail
theorem S.head2 {A B : HProp} (h : S w0 w (A :: B :: L)) : S w0 w [A, B] := S.left [A, B] h
theorem S.head3 {A B C : HProp} (h : S w0 w (A :: B :: C :: L)) : S w0 w [A, B, C] := S.left [A, B, C] h
end Go.Sep
