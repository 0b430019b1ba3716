/-
  Contracts of the library's text functions at this translation, laid by the kit's tool in plain words. No condition.
-/
import Derived.Shelf.LaysM
import Derived.Shelf.Strconv.Itoa4
import Derived.Shelf.LaysC
import Derived.Shelf.Strconv.ParseIntPublic10
import Derived.Shelf.Strings.Split
import Derived.Test.YtmcljepicadjfaaDoorProg
import Derived.Test.YtmcljepicadjfaaDoorZT
import Derived.Test.YtmcljepicadjfaaDoorZOP
import Derived.Test.YtmcljepicadjfaaDoorZX7a
import Derived.Lib.AppendIntMem
namespace Go.Proofs
open Go.Shelf
def Tryd.laysM173_ren : Go.Shelf.Ren := ⟨fun | 173 => 47 | 246 => 57 | 283 => 64 | 284 => 65 | 285 => 66 | 286 => 67 | 129 => 71 | 317 => 70 | 318 => 72 | 319 => 73 | 320 => 74 | 337 => 75 | 338 => 76 | n => n, fun | 2 => 2 | 3 => 3 | 9 => 9 | 4 => 4 | 171 => 89 | 0 => 0 | 53 => 64 | 37 => 61 | 5 => 5 | 173 => 92 | 212 => 102 | 51 => 98 | 20 => 20 | 213 => 103 | 46 => 67 | 232 => 107 | 233 => 108 | n => n, fun | 17 => 5 | 18 => 6 | 19 => 7 | n => n⟩
theorem Tryd.laysM173 : Go.Proofs.LaysM.n173 Tryd.prog Tryd.laysM173_ren := {
  mixed := by kernel_rfl
  f129 := Tryd.func71.trans (congrArg some (by kernel_rfl))
  f173 := Tryd.func47.trans (congrArg some (by kernel_rfl))
  f246 := Tryd.func57.trans (congrArg some (by kernel_rfl))
  f283 := Tryd.func64.trans (congrArg some (by kernel_rfl))
  f284 := Tryd.func65.trans (congrArg some (by kernel_rfl))
  f285 := Tryd.func66.trans (congrArg some (by kernel_rfl))
  f286 := Tryd.func67.trans (congrArg some (by kernel_rfl))
  f317 := Tryd.func70.trans (congrArg some (by kernel_rfl))
  f318 := Tryd.func72.trans (congrArg some (by kernel_rfl))
  f319 := Tryd.func73.trans (congrArg some (by kernel_rfl))
  f320 := Tryd.func74.trans (congrArg some (by kernel_rfl))
  f337 := Tryd.func75.trans (congrArg some (by kernel_rfl))
  f338 := Tryd.func76.trans (congrArg some (by kernel_rfl))
  t0 := Tryd.underlying0
  a0 := Tryd.isAgg0
  z0 := Tryd.sizeOf0
  v0 := Tryd.zeroValue0
  t2 := Tryd.underlying2
  a2 := Tryd.isAgg2
  z2 := Tryd.sizeOf2
  v2 := Tryd.zeroValue2
  t3 := Tryd.underlying3
  a3 := Tryd.isAgg3
  z3 := Tryd.sizeOf3
  v3 := Tryd.zeroValue3
  t4 := Tryd.underlying4
  a4 := Tryd.isAgg4
  z4 := Tryd.sizeOf4
  v4 := Tryd.zeroValue4
  t5 := Tryd.underlying5
  a5 := Tryd.isAgg5
  z5 := Tryd.sizeOf5
  v5 := Tryd.zeroValue5
  t9 := Tryd.underlying9
  a9 := Tryd.isAgg9
  z9 := Tryd.sizeOf9
  v9 := Tryd.zeroValue9
  t20 := Tryd.underlying20
  a20 := Tryd.isAgg20
  z20 := Tryd.sizeOf20
  v20 := Tryd.zeroValue20
  t37 := Tryd.underlying61
  a37 := Tryd.isAgg61
  z37 := Tryd.sizeOf61
  v37 := Tryd.zeroValue61
  t46 := Tryd.underlying67
  a46 := Tryd.isAgg67
  z46 := Tryd.sizeOf67
  v46 := Tryd.zeroValue67
  t51 := Tryd.underlying98
  a51 := Tryd.isAgg98
  z51 := Tryd.sizeOf98
  v51 := Tryd.zeroValue98
  t53 := Tryd.underlying64
  a53 := Tryd.isAgg64
  z53 := Tryd.sizeOf64
  v53 := Tryd.zeroValue64
  t171 := Tryd.underlying89
  a171 := Tryd.isAgg89
  z171 := Tryd.sizeOf89
  v171 := Tryd.zeroValue89
  t173 := Tryd.underlying92
  a173 := Tryd.isAgg92
  z173 := Tryd.sizeOf92
  v173 := Tryd.zeroValue92
  t212 := Tryd.underlying102
  a212 := Tryd.isAgg102
  z212 := Tryd.sizeOf102
  v212 := Tryd.zeroValue102
  t213 := Tryd.underlying103
  a213 := Tryd.isAgg103
  z213 := Tryd.sizeOf103
  t232 := Tryd.underlying107
  a232 := Tryd.isAgg107
  z232 := Tryd.sizeOf107
  v232 := Tryd.zeroValue107
  t233 := Tryd.underlying108
  a233 := Tryd.isAgg108
  z233 := Tryd.sizeOf108
  v233 := Tryd.zeroValue108
  g17 := by kernel_rfl
  g18 := by kernel_rfl
  g19 := by kernel_rfl
  i0 := by kernel_rfl
  i2 := by kernel_rfl
  i3 := by kernel_rfl
  i4 := by kernel_rfl
  i5 := by kernel_rfl
  i9 := by kernel_rfl
  i20 := by kernel_rfl
  i37 := by kernel_rfl
  i46 := by kernel_rfl
  i51 := by kernel_rfl
  i53 := by kernel_rfl
  i171 := by kernel_rfl
  i173 := by kernel_rfl
  i212 := by kernel_rfl
  i232 := by kernel_rfl
  i233 := by kernel_rfl
  m17 := by kernel_rfl
  m18 := by kernel_rfl
  m19 := by kernel_rfl }
open Go.RowKit Go.Sort Go.Lib in
/-- strconv.FormatInt: "FormatInt returns the string representation of i in the given base": AT BASE 10: i's decimal numeral, for every int64. (LAID: no walk: one application.) -/
theorem Tryd.strconv_FormatInt_10 (n : Int) (h0 : -9223372036854775808 ≤ n) (h1 : n ≤ 9223372036854775807) (w : World) (htab : Lib.TabIs Tryd.prog w "internal/strconv.uint64pow10" .u64 Lib.pow10Tab) :
    Calls Tryd.prog 47 #[.int .i64 n, .int .i64 10] w fun e w' => e = .returned (.string ⟨(Lib.itoa n).toArray⟩) ∧ ∃ k os, w' = grow (w.drewN k) os := Any.strconv_FormatInt_10 Tryd.laysM173 n h0 h1 w htab
def Tryd.lays173_ren : Go.Shelf.Ren := ⟨fun | 173 => 47 | 246 => 57 | 283 => 64 | 284 => 65 | 285 => 66 | 286 => 67 | 129 => 71 | 317 => 70 | 318 => 72 | 319 => 73 | 320 => 74 | 337 => 75 | 338 => 76 | n => n, fun | 2 => 2 | 3 => 3 | 9 => 9 | 4 => 4 | 171 => 89 | 0 => 0 | 53 => 64 | 37 => 61 | 5 => 5 | 173 => 92 | 212 => 102 | 51 => 98 | 20 => 20 | 213 => 103 | 46 => 67 | 232 => 107 | 233 => 108 | n => n, fun | 17 => 5 | 18 => 6 | 19 => 7 | n => n⟩
theorem Tryd.lays173 : Go.Proofs.Lays.n173 Tryd.prog Tryd.lays173_ren := {
  mixed := by kernel_rfl
  f129 := Tryd.func71.trans (congrArg some (by kernel_rfl))
  f173 := Tryd.func47.trans (congrArg some (by kernel_rfl))
  f246 := Tryd.func57.trans (congrArg some (by kernel_rfl))
  f283 := Tryd.func64.trans (congrArg some (by kernel_rfl))
  f284 := Tryd.func65.trans (congrArg some (by kernel_rfl))
  f285 := Tryd.func66.trans (congrArg some (by kernel_rfl))
  f286 := Tryd.func67.trans (congrArg some (by kernel_rfl))
  f317 := Tryd.func70.trans (congrArg some (by kernel_rfl))
  f318 := Tryd.func72.trans (congrArg some (by kernel_rfl))
  f319 := Tryd.func73.trans (congrArg some (by kernel_rfl))
  f320 := Tryd.func74.trans (congrArg some (by kernel_rfl))
  f337 := Tryd.func75.trans (congrArg some (by kernel_rfl))
  f338 := Tryd.func76.trans (congrArg some (by kernel_rfl))
  t0 := Tryd.underlying0
  a0 := Tryd.isAgg0
  z0 := Tryd.sizeOf0
  v0 := Tryd.zeroValue0
  t2 := Tryd.underlying2
  a2 := Tryd.isAgg2
  z2 := Tryd.sizeOf2
  v2 := Tryd.zeroValue2
  t3 := Tryd.underlying3
  a3 := Tryd.isAgg3
  z3 := Tryd.sizeOf3
  v3 := Tryd.zeroValue3
  t4 := Tryd.underlying4
  a4 := Tryd.isAgg4
  z4 := Tryd.sizeOf4
  v4 := Tryd.zeroValue4
  t5 := Tryd.underlying5
  a5 := Tryd.isAgg5
  z5 := Tryd.sizeOf5
  v5 := Tryd.zeroValue5
  t9 := Tryd.underlying9
  a9 := Tryd.isAgg9
  z9 := Tryd.sizeOf9
  v9 := Tryd.zeroValue9
  t20 := Tryd.underlying20
  a20 := Tryd.isAgg20
  z20 := Tryd.sizeOf20
  v20 := Tryd.zeroValue20
  t37 := Tryd.underlying61
  a37 := Tryd.isAgg61
  z37 := Tryd.sizeOf61
  v37 := Tryd.zeroValue61
  t46 := Tryd.underlying67
  a46 := Tryd.isAgg67
  z46 := Tryd.sizeOf67
  v46 := Tryd.zeroValue67
  t51 := Tryd.underlying98
  a51 := Tryd.isAgg98
  z51 := Tryd.sizeOf98
  v51 := Tryd.zeroValue98
  t53 := Tryd.underlying64
  a53 := Tryd.isAgg64
  z53 := Tryd.sizeOf64
  v53 := Tryd.zeroValue64
  t171 := Tryd.underlying89
  a171 := Tryd.isAgg89
  z171 := Tryd.sizeOf89
  v171 := Tryd.zeroValue89
  t173 := Tryd.underlying92
  a173 := Tryd.isAgg92
  z173 := Tryd.sizeOf92
  v173 := Tryd.zeroValue92
  t212 := Tryd.underlying102
  a212 := Tryd.isAgg102
  z212 := Tryd.sizeOf102
  v212 := Tryd.zeroValue102
  t213 := Tryd.underlying103
  a213 := Tryd.isAgg103
  z213 := Tryd.sizeOf103
  t232 := Tryd.underlying107
  a232 := Tryd.isAgg107
  z232 := Tryd.sizeOf107
  v232 := Tryd.zeroValue107
  t233 := Tryd.underlying108
  a233 := Tryd.isAgg108
  z233 := Tryd.sizeOf108
  v233 := Tryd.zeroValue108
  g17 := by kernel_rfl
  g18 := by kernel_rfl
  g19 := by kernel_rfl }
open Go.RowKit Go.Sort Go.Lib in
/-- THE ROAD WITHOUT THE TABLE: 0 <= i < 100. (LAID: no walk: one application.) -/
theorem Tryd.strconv_FormatInt_10_small (i : Nat) (hi : i < 100) (w : World) :
    Calls Tryd.prog 47 #[.int .i64 i, .int .i64 10] w fun e w' => e = .returned (.string ⟨(Lib.decDigits i).toArray⟩) ∧ w' = w := Any.strconv_FormatInt_10_small Tryd.lays173 i hi w
def Tryd.laysC174_ren : Go.Shelf.Ren := ⟨fun | 174 => 17 | 247 => 29 | 245 => 30 | 287 => 38 | 279 => 39 | 280 => 40 | 281 => 41 | 282 => 42 | 321 => 48 | 322 => 49 | 316 => 50 | 171 => 52 | 205 => 51 | 243 => 58 | 246 => 57 | 283 => 64 | 284 => 65 | 285 => 66 | 286 => 67 | 129 => 71 | 317 => 70 | 318 => 72 | 319 => 73 | 320 => 74 | 337 => 75 | 338 => 76 | n => n, fun | 9 => 9 | 3 => 3 | 2 => 2 | 75 => 44 | 85 => 45 | 4 => 4 | 167 => 63 | 5 => 5 | 53 => 64 | 175 => 65 | 46 => 67 | 168 => 68 | 37 => 61 | 0 => 0 | 210 => 77 | 21 => 21 | 127 => 84 | 145 => 87 | 143 => 85 | 171 => 89 | 173 => 92 | 212 => 102 | 51 => 98 | 20 => 20 | 213 => 103 | 232 => 107 | 233 => 108 | 80 => 109 | n => n, fun | 15 => 0 | 16 => 1 | 17 => 5 | 18 => 6 | 19 => 7 | n => n⟩
theorem Tryd.laysC174 : Go.Proofs.LaysC.n174 Tryd.prog Tryd.laysC174_ren := {
  mixed := by kernel_rfl
  f129 := Tryd.func71.trans (congrArg some (by kernel_rfl))
  f171 := Tryd.func52.trans (congrArg some (by kernel_rfl))
  f174 := Tryd.func17.trans (congrArg some (by kernel_rfl))
  f205 := Tryd.func51.trans (congrArg some (by kernel_rfl))
  f243 := Tryd.func58.trans (congrArg some (by kernel_rfl))
  f245 := Tryd.func30.trans (congrArg some (by kernel_rfl))
  f246 := Tryd.func57.trans (congrArg some (by kernel_rfl))
  f247 := Tryd.func29.trans (congrArg some (by kernel_rfl))
  f279 := Tryd.func39.trans (congrArg some (by kernel_rfl))
  f280 := Tryd.func40.trans (congrArg some (by kernel_rfl))
  f281 := Tryd.func41.trans (congrArg some (by kernel_rfl))
  f282 := Tryd.func42.trans (congrArg some (by kernel_rfl))
  f283 := Tryd.func64.trans (congrArg some (by kernel_rfl))
  f284 := Tryd.func65.trans (congrArg some (by kernel_rfl))
  f285 := Tryd.func66.trans (congrArg some (by kernel_rfl))
  f286 := Tryd.func67.trans (congrArg some (by kernel_rfl))
  f287 := Tryd.func38.trans (congrArg some (by kernel_rfl))
  f316 := Tryd.func50.trans (congrArg some (by kernel_rfl))
  f317 := Tryd.func70.trans (congrArg some (by kernel_rfl))
  f318 := Tryd.func72.trans (congrArg some (by kernel_rfl))
  f319 := Tryd.func73.trans (congrArg some (by kernel_rfl))
  f320 := Tryd.func74.trans (congrArg some (by kernel_rfl))
  f321 := Tryd.func48.trans (congrArg some (by kernel_rfl))
  f322 := Tryd.func49.trans (congrArg some (by kernel_rfl))
  f337 := Tryd.func75.trans (congrArg some (by kernel_rfl))
  f338 := Tryd.func76.trans (congrArg some (by kernel_rfl))
  t0 := Tryd.underlying0
  a0 := Tryd.isAgg0
  z0 := Tryd.sizeOf0
  v0 := Tryd.zeroValue0
  t2 := Tryd.underlying2
  a2 := Tryd.isAgg2
  z2 := Tryd.sizeOf2
  v2 := Tryd.zeroValue2
  t3 := Tryd.underlying3
  a3 := Tryd.isAgg3
  z3 := Tryd.sizeOf3
  v3 := Tryd.zeroValue3
  t4 := Tryd.underlying4
  a4 := Tryd.isAgg4
  z4 := Tryd.sizeOf4
  v4 := Tryd.zeroValue4
  t5 := Tryd.underlying5
  a5 := Tryd.isAgg5
  z5 := Tryd.sizeOf5
  v5 := Tryd.zeroValue5
  t9 := Tryd.underlying9
  a9 := Tryd.isAgg9
  z9 := Tryd.sizeOf9
  v9 := Tryd.zeroValue9
  t20 := Tryd.underlying20
  a20 := Tryd.isAgg20
  z20 := Tryd.sizeOf20
  v20 := Tryd.zeroValue20
  t21 := Tryd.underlying21
  a21 := Tryd.isAgg21
  z21 := Tryd.sizeOf21
  v21 := Tryd.zeroValue21
  t37 := Tryd.underlying61
  a37 := Tryd.isAgg61
  z37 := Tryd.sizeOf61
  v37 := Tryd.zeroValue61
  t46 := Tryd.underlying67
  a46 := Tryd.isAgg67
  z46 := Tryd.sizeOf67
  v46 := Tryd.zeroValue67
  t51 := Tryd.underlying98
  a51 := Tryd.isAgg98
  z51 := Tryd.sizeOf98
  v51 := Tryd.zeroValue98
  t53 := Tryd.underlying64
  a53 := Tryd.isAgg64
  z53 := Tryd.sizeOf64
  v53 := Tryd.zeroValue64
  t75 := Tryd.underlying44
  a75 := Tryd.isAgg44
  z75 := Tryd.sizeOf44
  v75 := Tryd.zeroValue44
  t85 := Tryd.underlying45
  a85 := Tryd.isAgg45
  z85 := Tryd.sizeOf45
  v85 := Tryd.zeroValue45
  t127 := Tryd.underlying84
  a127 := Tryd.isAgg84
  z127 := Tryd.sizeOf84
  v127 := Tryd.zeroValue84
  t143 := Tryd.underlying85
  a143 := Tryd.isAgg85
  z143 := Tryd.sizeOf85
  v143 := Tryd.zeroValue85
  t145 := Tryd.underlying87
  a145 := Tryd.isAgg87
  z145 := Tryd.sizeOf87
  v145 := Tryd.zeroValue87
  t167 := Tryd.underlying63
  a167 := Tryd.isAgg63
  z167 := Tryd.sizeOf63
  v167 := Tryd.zeroValue63
  t168 := Tryd.underlying68
  a168 := Tryd.isAgg68
  z168 := Tryd.sizeOf68
  v168 := Tryd.zeroValue68
  t171 := Tryd.underlying89
  a171 := Tryd.isAgg89
  z171 := Tryd.sizeOf89
  v171 := Tryd.zeroValue89
  t173 := Tryd.underlying92
  a173 := Tryd.isAgg92
  z173 := Tryd.sizeOf92
  v173 := Tryd.zeroValue92
  t175 := Tryd.underlying65
  a175 := Tryd.isAgg65
  z175 := Tryd.sizeOf65
  v175 := Tryd.zeroValue65
  t210 := Tryd.underlying77
  a210 := Tryd.isAgg77
  z210 := Tryd.sizeOf77
  v210 := Tryd.zeroValue77
  t212 := Tryd.underlying102
  a212 := Tryd.isAgg102
  z212 := Tryd.sizeOf102
  v212 := Tryd.zeroValue102
  t213 := Tryd.underlying103
  a213 := Tryd.isAgg103
  z213 := Tryd.sizeOf103
  t232 := Tryd.underlying107
  a232 := Tryd.isAgg107
  z232 := Tryd.sizeOf107
  v232 := Tryd.zeroValue107
  t233 := Tryd.underlying108
  a233 := Tryd.isAgg108
  z233 := Tryd.sizeOf108
  v233 := Tryd.zeroValue108
  g15 := by kernel_rfl
  g16 := by kernel_rfl
  g17 := by kernel_rfl
  g18 := by kernel_rfl
  g19 := by kernel_rfl
  t80 := Tryd.underlying109
  a80 := Tryd.isAgg109
  z80 := Tryd.sizeOf109
  v80 := Tryd.zeroValue109
  i0 := by kernel_rfl
  i2 := by kernel_rfl
  i3 := by kernel_rfl
  i4 := by kernel_rfl
  i5 := by kernel_rfl
  i9 := by kernel_rfl
  i20 := by kernel_rfl
  i21 := by kernel_rfl
  i37 := by kernel_rfl
  i46 := by kernel_rfl
  i51 := by kernel_rfl
  i53 := by kernel_rfl
  i75 := by kernel_rfl
  i80 := by kernel_rfl
  i85 := by kernel_rfl
  i127 := by kernel_rfl
  i143 := by kernel_rfl
  i145 := by kernel_rfl
  i167 := by kernel_rfl
  i168 := by kernel_rfl
  i171 := by kernel_rfl
  i173 := by kernel_rfl
  i175 := by kernel_rfl
  i210 := by kernel_rfl
  i212 := by kernel_rfl
  i232 := by kernel_rfl
  i233 := by kernel_rfl
  m15 := by kernel_rfl
  m16 := by kernel_rfl
  m17 := by kernel_rfl
  m18 := by kernel_rfl
  m19 := by kernel_rfl
  c0 := by kernel_rfl
  c2 := by kernel_rfl
  c3 := by kernel_rfl
  c4 := by kernel_rfl
  c5 := by kernel_rfl
  c9 := by kernel_rfl
  c20 := by kernel_rfl
  c21 := by kernel_rfl
  c37 := by kernel_rfl
  c46 := by kernel_rfl
  c51 := by kernel_rfl
  c53 := by kernel_rfl
  c75 := by kernel_rfl
  c80 := by kernel_rfl
  c85 := by kernel_rfl
  c127 := by kernel_rfl
  c143 := by kernel_rfl
  c145 := by kernel_rfl
  c167 := by kernel_rfl
  c168 := by kernel_rfl
  c171 := by kernel_rfl
  c173 := by kernel_rfl
  c175 := by kernel_rfl
  c210 := by kernel_rfl
  c212 := by kernel_rfl
  c213 := by kernel_rfl
  c232 := by kernel_rfl
  c233 := by kernel_rfl }



def Tryd.lays146_ren : Go.Shelf.Ren := ⟨fun | 146 => 18 | 221 => 31 | 268 => 43 | 138 => 44 | 143 => 45 | 195 => 53 | 197 => 54 | 218 => 55 | 219 => 56 | 260 => 59 | 217 => 60 | 225 => 61 | 224 => 62 | 267 => 63 | 266 => 68 | 314 => 69 | n => n, fun | 9 => 9 | 31 => 30 | 3 => 3 | 4 => 4 | 0 => 0 | 105 => 81 | 21 => 21 | 5 => 5 | 46 => 67 | 119 => 94 | 139 => 97 | 138 => 96 | 146 => 99 | 51 => 98 | n => n, fun | 1 => 2 | 3 => 3 | 4 => 4 | n => n⟩
theorem Tryd.lays146 : Go.Proofs.Lays.n146 Tryd.prog Tryd.lays146_ren := {
  mixed := by kernel_rfl
  f138 := Tryd.func44.trans (congrArg some (by kernel_rfl))
  f143 := Tryd.func45.trans (congrArg some (by kernel_rfl))
  f146 := Tryd.func18.trans (congrArg some (by kernel_rfl))
  f195 := Tryd.func53.trans (congrArg some (by kernel_rfl))
  f197 := Tryd.func54.trans (congrArg some (by kernel_rfl))
  f217 := Tryd.func60.trans (congrArg some (by kernel_rfl))
  f218 := Tryd.func55.trans (congrArg some (by kernel_rfl))
  f219 := Tryd.func56.trans (congrArg some (by kernel_rfl))
  f221 := Tryd.func31.trans (congrArg some (by kernel_rfl))
  f224 := Tryd.func62.trans (congrArg some (by kernel_rfl))
  f225 := Tryd.func61.trans (congrArg some (by kernel_rfl))
  f260 := Tryd.func59.trans (congrArg some (by kernel_rfl))
  f266 := Tryd.func68.trans (congrArg some (by kernel_rfl))
  f267 := Tryd.func63.trans (congrArg some (by kernel_rfl))
  f268 := Tryd.func43.trans (congrArg some (by kernel_rfl))
  f314 := Tryd.func69.trans (congrArg some (by kernel_rfl))
  t0 := Tryd.underlying0
  a0 := Tryd.isAgg0
  z0 := Tryd.sizeOf0
  v0 := Tryd.zeroValue0
  t3 := Tryd.underlying3
  a3 := Tryd.isAgg3
  z3 := Tryd.sizeOf3
  v3 := Tryd.zeroValue3
  t4 := Tryd.underlying4
  a4 := Tryd.isAgg4
  z4 := Tryd.sizeOf4
  v4 := Tryd.zeroValue4
  t5 := Tryd.underlying5
  a5 := Tryd.isAgg5
  z5 := Tryd.sizeOf5
  v5 := Tryd.zeroValue5
  t9 := Tryd.underlying9
  a9 := Tryd.isAgg9
  z9 := Tryd.sizeOf9
  v9 := Tryd.zeroValue9
  t21 := Tryd.underlying21
  a21 := Tryd.isAgg21
  z21 := Tryd.sizeOf21
  v21 := Tryd.zeroValue21
  t31 := Tryd.underlying30
  a31 := Tryd.isAgg30
  z31 := Tryd.sizeOf30
  v31 := Tryd.zeroValue30
  t46 := Tryd.underlying67
  a46 := Tryd.isAgg67
  z46 := Tryd.sizeOf67
  v46 := Tryd.zeroValue67
  t51 := Tryd.underlying98
  a51 := Tryd.isAgg98
  z51 := Tryd.sizeOf98
  v51 := Tryd.zeroValue98
  t105 := Tryd.underlying81
  a105 := Tryd.isAgg81
  z105 := Tryd.sizeOf81
  v105 := Tryd.zeroValue81
  t119 := Tryd.underlying94
  a119 := Tryd.isAgg94
  z119 := Tryd.sizeOf94
  t138 := Tryd.underlying96
  a138 := Tryd.isAgg96
  z138 := Tryd.sizeOf96
  v138 := Tryd.zeroValue96
  t139 := Tryd.underlying97
  a139 := Tryd.isAgg97
  z139 := Tryd.sizeOf97
  v139 := Tryd.zeroValue97
  t146 := Tryd.underlying99
  a146 := Tryd.isAgg99
  z146 := Tryd.sizeOf99
  v146 := Tryd.zeroValue99
  g1 := by kernel_rfl
  g3 := by kernel_rfl
  g4 := by kernel_rfl }
open Go.RowKit Go.Lib in
/-- strings.Split. (LAID: no walk: one application.) -/
theorem Tryd.strings_Split (s sep : ByteArray) (m : Int) (w : World) (hs : s.size < 4294967281) (hm : w.cell? ⟨2, 0, none⟩ = some (.int .i64 m)) (h1 : 1 ≤ sep.size) :
    Calls Tryd.prog 18 #[.string s, .string sep] w fun e w' =>
      e = .returned (.slice (some ⟨w.heap.size, 0, none⟩) (Lib.countB s sep + 1) (Lib.countB s sep + 1)) ∧ w' = w.alloc (.cells ((Lib.splitB sep 0 (Lib.countB s sep) s).map Value.string).toArray 9) := Any.strings_Split Tryd.lays146 (by kernel_rfl) s sep m w hs hm h1
end Go.Proofs

/-
  Numbers and words as texts: strconv.FormatInt, strings.Join, decimal. No condition.
-/
namespace Go.Proofs.YtmcljepicadjfaaDoor
open Go.AI Go.RowKit
set_option maxRecDepth 8000
set_option maxHeartbeats 1600000
/-- The table of powers of ten. -/
def KT : Blk := tabK 5
theorem c_FormatInt (n : Int) (h0 : -9223372036854775808 ≤ n ∧ n ≤ 9223372036854775807) : GivesT Tryd.prog KT 47 [.int n, .int 10] (.str (dcm n)) := by
  refine ⟨⟨Tryd.f47, Tryd.func47, by decide, by rfl⟩, fun h hK w vs hrel hh => ?_⟩
  obtain ⟨v1, us, rfl, h1, h2⟩ := hrel.uncons
  obtain ⟨v2, us2, rfl, h3, h4⟩ := h2.uncons
  have hnl : us2 = [] := List.eq_nil_of_length_eq_zero h4.1
  subst hnl
  obtain ⟨rfl, _⟩ := h1.int_inv
  obtain ⟨rfl, _⟩ := h3.int_inv
  refine (Tryd.strconv_FormatInt_10 n h0.1 h0.2 w (tab_is (by kernel_rfl) hK hh)).mono fun e w' ⟨e1, k, os, e2⟩ => ⟨_, e1, ?_, .str _ ?_⟩
  · subst e2
    exact Chg.ofBelow hh (Lib.below_grow _ w (Nat.le_refl _) k os)
  · have := dcm_len h0
    exact Nat.le_trans this (by decide)
theorem c_decimal (n : Int) (h0 : -9223372036854775808 ≤ n ∧ n ≤ 9223372036854775807) : GivesT Tryd.prog KT 33 [.int n] (.str (dcm n)) := by
  refine fn_of_runT tyOk ztOk mix Tryd.func33 rfl (by decide) Tryd.ntmps33 (fun w0 h hK => ?_)
  repeat' (first
      | (refine j_go ?_; first
        | refine j_op0 rfl rfl rfl rfl ?_ | (refine j_kCall rfl rfl rfl rfl ?_; first | refine jcT (by first | exact hK | exact List.mem_cons_of_mem _ hK | exact List.mem_cons_of_mem _ (List.mem_cons_of_mem _ hK) | simp [hK]) (c_FormatInt _ h0) (LeL.refl _) rfl rfl ?_))
      | refine j_nil ?_
      | (refine r_go ?_; first | refine run_seq ?_ | refine run_region ?_ | refine run_ret ?_)
      | refine seqQ_normal ?_)
  exact end1 rfl (List.Sublist.refl _) (rfl) (.inl rfl)
theorem c_Decimal : ∀ (k : Nat) (n : Int), 0 ≤ n → n < (k : Int) → n ≤ 9223372036854775807 → Gives Tryd.prog 27 [.int n] (.str (dcm n))
  | 0, n, h0, h1, _ => absurd h1 (by omega)
  | k + 1, n, h0, h1, h9 => by
    refine fn_of_run tyOk ztOk mix Tryd.func27 rfl (by decide) Tryd.ntmps27 (fun w0 h => ?_)
    by_cases hn : 10 ≤ n
    · have ih := c_Decimal k (n / 10) (by omega) (by omega) (by omega)
      have hl := dcm_len (n := n / 10) ⟨by omega, by omega⟩
      repeat' (first
      | (refine j_go ?_; first
        | refine j_op0 rfl rfl rfl rfl ?_ | (refine j_kBin rfl ?_; first | refine j_in rfl rfl ⟨by omega, by omega⟩ rfl rfl ?_ | refine j_quo rfl rfl rfl rfl (by omega) rfl rfl ?_ | refine j_rem rfl rfl rfl rfl (by omega) rfl rfl ?_ | refine j_cat rfl rfl rfl rfl (by first | omega | (simp only [List.length_append, List.length_cons, List.length_nil]; omega)) rfl rfl ?_) | (refine j_kCall rfl rfl rfl rfl ?_; first | refine jc (ih) (LeL.refl _) rfl rfl ?_) | (refine j_kBsl rfl ?_; first | refine j_bsl rfl rfl rfl rfl rfl rfl rfl rfl rfl rfl rfl ?_) | refine j_convB rfl rfl rfl rfl rfl (by omega) rfl rfl ?_ | refine j_b2s1 rfl rfl rfl rfl rfl rfl rfl rfl ?_)
      | refine j_nil ?_
      | (refine r_go ?_; first | refine run_seq ?_ | refine run_region ?_ | (refine (run_if rfl (fun hb => ?_) (fun hb => ?_)) <;> first | (exfalso; omega) | skip) | refine run_ret ?_ | refine run_regionD (by kernel_rfl) ?_)
      | refine seqQ_normal ?_ | refine seqQ_ret ?_)
      exact end1 rfl (List.Sublist.refl _) (by rw [dcm_big hn]) (.inl rfl)
    · repeat' (first
      | (refine j_go ?_; first
        | refine j_op0 rfl rfl rfl rfl ?_ | (refine j_kBin rfl ?_; first | refine j_in rfl rfl ⟨by omega, by omega⟩ rfl rfl ?_) | (refine j_kBsl rfl ?_; first | refine j_bsl rfl rfl rfl rfl rfl rfl rfl rfl rfl rfl rfl ?_) | refine j_convB rfl rfl rfl rfl rfl (by omega) rfl rfl ?_ | refine j_b2s1 rfl rfl rfl rfl rfl rfl rfl rfl ?_)
      | refine j_nil ?_
      | (refine r_go ?_; first | refine run_seq ?_ | refine run_region ?_ | (refine (run_if rfl (fun hb => ?_) (fun hb => ?_)) <;> first | (exfalso; omega) | skip) | refine run_ret ?_ | refine run_skip ?_)
      | refine seqQ_normal ?_)
      exact end1 rfl (List.Sublist.refl _) (by rw [dcm_small ⟨h0, by omega⟩]) (.inl rfl)
theorem c_dec (n : Int) (h0 : 0 ≤ n ∧ n ≤ 1000000000) : Gives Tryd.prog 27 [.int n] (.str (dcm n)) := c_Decimal (n.toNat + 1) n h0.1 (by omega) (by omega)

theorem sa {a b : List UInt8} (h : a = b) : some (A.str a) = some (A.str b) := by rw [h]
theorem st {a b : List UInt8} (h : a = b) : A.str a = A.str b := by rw [h]


end Go.Proofs.YtmcljepicadjfaaDoor

/-
  Texts cut and read by the library: strings.Split, strconv.ParseInt, strings.Cut, strings.CutPrefix. No condition.
-/
namespace Go.Proofs.YtmcljepicadjfaaDoor
open Go.AI Go.RowKit
set_option maxRecDepth 8000
set_option maxHeartbeats 1600000
/-- Where the library's variables stand, so does the table. -/
theorem gT {f : FuncId} {xs : List A} {v : A} (H : GivesT Tryd.prog KT f xs v) : Gives Tryd.prog f xs v := by
  refine ⟨H.1, fun h w vs hrel hh => ?_⟩
  have hk : keys (KT :: h) = keys h := by simp [keys, KT, tabK]
  have im : ∀ b, Im w h b → Im w (KT :: h) b ∧ w.heap[b]? = w.heap[b]? := fun b hb => ⟨⟨hb.1, by rw [hk]; exact hb.2⟩, rfl⟩
  have hh2 : HeapOk (KT :: h) w := ⟨by rw [hk]; exact hh.nodup, fun k hkm => by
    rcases List.mem_cons.1 hkm with rfl | hkm
    · exact ⟨rfl, RoomOk.sign _⟩
    · exact (hh.blk k hkm).stab im fun _ _ => rfl, hh.tab.stab im⟩
  refine (H.2 (KT :: h) (List.mem_cons_self) w vs (hrel.stab im) hh2).mono fun e w' ⟨u, e1, e2, e3⟩ => ⟨u, e1, ?_, ?_⟩
  · have q := e2.heap.sub (List.sublist_cons_self KT h)
    exact ⟨e2.os, e2.tape, e2.output, e2.size, fun k q1 q2 => e2.block k q1 (by rw [hk]; exact q2), fun b hb => by have := e2.new b (by rw [hk]; exact hb); rwa [hk] at this, q⟩
  · exact e3.heap (List.sublist_cons_self KT h)
theorem rel_words {h : Heap} {w w' : World} {ws : List (List UInt8)} {bs : List ByteArray} {T : TypeId} (hh : HeapOk h w) (hws : bs.map (·.data.toList) = ws) (hl : ∀ x ∈ ws, x.length ≤ maxLn) (hn : ws.length ≤ maxLn)
    (hw : w' = w.alloc (.cells ((bs.map Value.string).toArray) T)) : Rel (Im w' h) w' (.sl (ws.map encW)) (.slice (some ⟨w.heap.size, 0, none⟩) bs.length bs.length) := by
  have hb : w'.heap[w.heap.size]? = some (.cells ((bs.map Value.string).toArray) T (0, 0)) := by subst hw; exact heap_new w _
  have hlen : bs.length = (ws.map encW).length := by rw [← hws]; simp
  have e1 : bs.length = ws.length := by rw [← hws]; simp
  conv => rhs; rw [show bs.length = (ws.map encW).length from hlen]
  refine .sl _ w.heap.size 0 (ws.map encW).length 1 (fun i _ => (bs.map Value.string).getD i undef) ⟨?_, fun hk => ?_⟩ (by simpa using hn) (Nat.le_refl _) (fun i hi => by simp [encW]) (fun i j hi hj => ?_) (fun i j hi hj => ?_)
  · subst hw; simp
  · exact Nat.lt_irrefl _ (hh.lt hk)
  · rw [List.length_map] at hi
    have hi2 : i < bs.length := by omega
    have hj0 : j = 0 := by omega
    subst hj0
    simp [World.cell?, hb, hi2]
  · rw [List.length_map] at hi
    have hi2 : i < bs.length := by omega
    have hj0 : j = 0 := by simpa [encW] using hj
    subst hj0
    have e2 : ws[i] = bs[i].data.toList := by subst hws; simp
    have e3 : (bs.map Value.string).getD i undef = .string ⟨(bs[i].data.toList).toArray⟩ := by simp [hi2]
    simp only [List.getElem_map, encW, List.getElem_cons_zero, e3, e2]
    exact .str _ (by rw [← e2]; exact hl _ (List.getElem_mem hi))
theorem c_Split (s : List UInt8) (c : UInt8) (hs : s.length < 4294967281) : Gives Tryd.prog 18 [.str s, .str [c]] (.sl ((spl c s).map encW)) := by
  refine ⟨⟨Tryd.f18, Tryd.func18, by decide, by rfl⟩, fun h w vs hrel hh => ?_⟩
  obtain ⟨v1, us, rfl, h1, h2⟩ := hrel.uncons
  obtain ⟨v2, us2, rfl, h3, h4⟩ := h2.uncons
  have hnl : us2 = [] := List.eq_nil_of_length_eq_zero h4.1
  subst hnl
  obtain ⟨rfl, _⟩ := h1.str_inv
  obtain ⟨rfl, _⟩ := h3.str_inv
  obtain ⟨_, m, hm⟩ := hh.tab.max
  have ed := Lib.splitB_data ⟨[c].toArray⟩ 0 (Lib.countB ⟨s.toArray⟩ ⟨[c].toArray⟩) ⟨s.toArray⟩
  have ec : Lib.countB ⟨s.toArray⟩ ⟨[c].toArray⟩ = s.count c := Lib.count_one c s
  have ed2 : (Lib.splitB ⟨[c].toArray⟩ 0 (Lib.countB ⟨s.toArray⟩ ⟨[c].toArray⟩) ⟨s.toArray⟩).map (·.data.toList) = spl c s := by
    rw [ed, ec]; exact splitK_spl c s
  have el : (Lib.splitB ⟨[c].toArray⟩ 0 (Lib.countB ⟨s.toArray⟩ ⟨[c].toArray⟩) ⟨s.toArray⟩).length = Lib.countB ⟨s.toArray⟩ ⟨[c].toArray⟩ + 1 := by
    have := congrArg List.length ed2
    rw [List.length_map, spl_count] at this
    rw [this, ec]
  have ll := spl_len c s
  have big : (4294967281 : Nat) ≤ maxLn := by decide
  refine (Tryd.strings_Split ⟨s.toArray⟩ ⟨[c].toArray⟩ m w (by rw [str_size]; exact hs) hm (by rw [str_size]; simp)).mono fun e w' ⟨e1, e2⟩ => ⟨_, e1, ?_, ?_⟩
  · subst e2; exact Chg.ofExt hh (Ext.alloc w _)
  · rw [← el]
    exact rel_words hh ed2 (fun x hx => by have := (spl_mem c s x hx).1; omega) (by omega) e2
theorem chg_bytes {h : Heap} {w w' : World} {t : TypeId} (hh : HeapOk h w) (hw : w' = w ∨ ∃ x, w' = Lib.bytesWorld w t x) : Chg h h w w' := by
  rcases hw with rfl | ⟨x, rfl⟩
  · exact Chg.refl hh
  · exact Chg.ofBelow hh (Lib.bytesWorld_below _ _ _)
theorem c_PIok (s : List UInt8) (hs : s.length ≤ 281474976710656) (hp : pIok s = true) : Gives Tryd.prog 17 [.str s, .int 10, .int 64] (.tup [.int (pIv s), .raw .nilIface]) := by
  refine ⟨⟨Tryd.f17, Tryd.func17, by decide, by rfl⟩, fun h w vs hrel hh => ?_⟩
  obtain ⟨v1, us, rfl, h1, h2⟩ := hrel.uncons
  obtain ⟨v2, us2, rfl, h3, h4⟩ := h2.uncons
  obtain ⟨v3, us3, rfl, h5, h6⟩ := h4.uncons
  have hnl : us3 = [] := List.eq_nil_of_length_eq_zero h6.1
  subst hnl
  obtain ⟨rfl, _⟩ := h1.str_inv
  obtain ⟨rfl, _⟩ := h3.int_inv
  obtain ⟨rfl, _⟩ := h5.int_inv
  have hin := pIv_in s
  cases hq : Lib.parseIntB 64 s with
  | ok v =>
    have ev : pIv s = v := by unfold pIv; rw [hq]
    rw [ev] at hin ⊢
    refine (Any.strconv_ParseInt_10_at64_ok Tryd.laysC174 ⟨s.toArray⟩ (by rw [str_size]; omega) v hq w).mono fun e w' ⟨e1, e2⟩ => ⟨_, e1, chg_bytes hh e2, ?_⟩
    exact .tup [.int v, .raw .nilIface] [.int .i64 v, .nilIface] rfl fun j hj hj' => by
      match j, hj with
      | 0, _ => exact .int v hin
      | 1, _ => exact .raw _
  | _ => unfold pIok at hp; rw [hq] at hp; cases hp
theorem c_PIbad (s : List UInt8) (hs : s.length ≤ 281474976710656) (hp : pIok s = false) : Gives Tryd.prog 17 [.str s, .int 10, .int 64] (.tup [.int (pIv s), .any IsIf]) := by
  refine ⟨⟨Tryd.f17, Tryd.func17, by decide, by rfl⟩, fun h w vs hrel hh => ?_⟩
  obtain ⟨v1, us, rfl, h1, h2⟩ := hrel.uncons
  obtain ⟨v2, us2, rfl, h3, h4⟩ := h2.uncons
  obtain ⟨v3, us3, rfl, h5, h6⟩ := h4.uncons
  have hnl : us3 = [] := List.eq_nil_of_length_eq_zero h6.1
  subst hnl
  obtain ⟨rfl, _⟩ := h1.str_inv
  obtain ⟨rfl, _⟩ := h3.int_inv
  obtain ⟨rfl, _⟩ := h5.int_inv
  have hin := pIv_in s
  have tl : ∀ (w' : World) (n : Int) (u : Value), InR n → IsIf u → Rel (Im w' h) w' (.tup [.int n, .any IsIf]) (.tuple #[.int .i64 n, u]) := fun w' n u hn hu =>
    .tup [.int n, .any IsIf] [.int .i64 n, u] rfl fun j hj hj' => by
      match j, hj with
      | 0, _ => exact .int n hn
      | 1, _ => exact .any _ _ hu
  cases hq : Lib.parseIntB 64 s with
  | ok v => unfold pIok at hp; rw [hq] at hp; cases hp
  | range =>
    have ev : pIv s = Lib.intSat 64 s := by unfold pIv; rw [hq]
    rw [ev] at hin ⊢
    obtain ⟨_, v, hv, hi⟩ := hh.tab.rng
    exact (Any.strconv_ParseInt_10_at64_range Tryd.laysC174 ⟨s.toArray⟩ (by rw [str_size]; omega) hq v w hv hi).mono fun e w' ⟨N, e1, _, _, e2⟩ => ⟨_, e1, Chg.ofBelow hh e2, tl _ _ _ hin ⟨_, _, rfl⟩⟩
  | _ =>
    have ev : pIv s = 0 := by unfold pIv; rw [hq]
    rw [ev] at hin ⊢
    obtain ⟨_, v, hv, hi⟩ := hh.tab.syn
    exact (Any.strconv_ParseInt_10_at64_syntax Tryd.laysC174 ⟨s.toArray⟩ (by rw [str_size]; omega) hq v w hv hi).mono fun e w' ⟨N, e1, _, _, e2⟩ => ⟨_, e1, Chg.ofBelow hh e2, tl _ _ _ hin ⟨_, _, rfl⟩⟩
theorem gives_le {P : Program} {f : FuncId} {xs : List A} {v u : A} (H : Gives P f xs v) (hle : Le v u) : Gives P f xs u :=
  ⟨H.1, fun h w vs a b => (H.2 h w vs a b).mono fun _ _ ⟨x, q1, q2, q3⟩ => ⟨x, q1, q2, hle _ _ _ q3⟩⟩
/-- .. whatever the error. -/
theorem c_PI (s : List UInt8) (hs : s.length ≤ 281474976710656) : Gives Tryd.prog 17 [.str s, .int 10, .int 64] (.tup [.int (pIv s), .any fun _ => True]) := by
  have q : ∀ a : A, Le a (.any fun _ => True) := fun a S w v _ => .any _ _ trivial
  cases hp : pIok s with
  | true => exact gives_le (c_PIok s hs hp) (Le.tup (LeL.cons (Le.refl _) (LeL.cons (q _) LeL.nil)))
  | false => exact gives_le (c_PIbad s hs hp) (Le.tup (LeL.cons (Le.refl _) (LeL.cons (q _) LeL.nil)))
end Go.Proofs.YtmcljepicadjfaaDoor
