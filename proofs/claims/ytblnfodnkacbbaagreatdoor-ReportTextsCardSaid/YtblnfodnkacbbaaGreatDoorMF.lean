/- Verdicts as texts, there and back: plain functions; the library's contracts; the walks. No condition. -/
import Derived.Shelf.Slices.Turned
import Derived.Shelf.Small.Wraps
import Derived.Shelf.Strconv.AtoiAll
import Derived.Shelf.Strconv.Itoa3
import Derived.Shelf.Strings.Cut
import Derived.Shelf.Strings.OnBuilder
import Derived.Shelf.Strings.Search3
import Derived.Shelf.Strings.Split
import Derived.KernelRfl
import Derived.Test.YtblnfodnkacbbaaGreatDoorProg
import Derived.Test.YtblnfodnkacbbaaGreatDoorME
import Derived.Lib.SplitLaws
import Derived.Lib.Join
import Derived.Lib.AtoiAllCases
import Derived.Lib.Strings
import Derived.Lib.ItoaNum
import Derived.Test.YtblnfodnkacbbaaGreatDoorMC
import Derived.Below
set_option maxRecDepth 100000
namespace Go.Proofs
open Go.Shelf
def Tryz.lays143_ren : Go.Shelf.Ren := ⟨fun | 143 => 84 | 219 => 134 | 217 => 180 | 225 => 181 | 224 => 182 | 267 => 183 | 266 => 216 | 314 => 217 | n => n, fun | 9 => 9 | 3 => 3 | 4 => 4 | 5 => 5 | 46 => 280 | 146 => 322 | 51 => 315 | n => n, fun | 1 => 0 | n => n⟩
theorem Tryz.lays143 : Lays.n143 Tryz.prog Tryz.lays143_ren where
  mixed := by kernel_rfl
  f143 := Tryz.func84.trans (congrArg some (by kernel_rfl))
  f217 := Tryz.func180.trans (congrArg some (by kernel_rfl))
  f219 := Tryz.func134.trans (congrArg some (by kernel_rfl))
  f224 := Tryz.func182.trans (congrArg some (by kernel_rfl))
  f225 := Tryz.func181.trans (congrArg some (by kernel_rfl))
  f266 := Tryz.func216.trans (congrArg some (by kernel_rfl))
  f267 := Tryz.func183.trans (congrArg some (by kernel_rfl))
  f314 := Tryz.func217.trans (congrArg some (by kernel_rfl))
  t3 := Tryz.underlying3
  a3 := Tryz.isAgg3
  z3 := Tryz.sizeOf3
  v3 := Tryz.zeroValue3
  t4 := Tryz.underlying4
  a4 := Tryz.isAgg4
  z4 := Tryz.sizeOf4
  v4 := Tryz.zeroValue4
  t5 := Tryz.underlying5
  a5 := Tryz.isAgg5
  z5 := Tryz.sizeOf5
  v5 := Tryz.zeroValue5
  t9 := Tryz.underlying9
  a9 := Tryz.isAgg9
  z9 := Tryz.sizeOf9
  v9 := Tryz.zeroValue9
  t46 := Tryz.underlying280
  a46 := Tryz.isAgg280
  z46 := Tryz.sizeOf280
  v46 := Tryz.zeroValue280
  t51 := Tryz.underlying315
  a51 := Tryz.isAgg315
  z51 := Tryz.sizeOf315
  v51 := Tryz.zeroValue315
  t146 := Tryz.underlying322
  a146 := Tryz.isAgg322
  z146 := Tryz.sizeOf322
  v146 := Tryz.zeroValue322
  g1 := by kernel_rfl
def Tryz.lays145_ren : Go.Shelf.Ren := ⟨fun | 145 => 49 | 220 => 87 | 219 => 134 | 217 => 180 | 225 => 181 | 224 => 182 | 267 => 183 | 266 => 216 | 314 => 217 | n => n, fun | 9 => 9 | 4 => 4 | 59 => 113 | 3 => 3 | 5 => 5 | 46 => 280 | 146 => 322 | 51 => 315 | n => n, fun | 1 => 0 | n => n⟩
theorem Tryz.lays145 : Lays.n145 Tryz.prog Tryz.lays145_ren where
  mixed := by kernel_rfl
  f145 := Tryz.func49.trans (congrArg some (by kernel_rfl))
  f217 := Tryz.func180.trans (congrArg some (by kernel_rfl))
  f219 := Tryz.func134.trans (congrArg some (by kernel_rfl))
  f220 := Tryz.func87.trans (congrArg some (by kernel_rfl))
  f224 := Tryz.func182.trans (congrArg some (by kernel_rfl))
  f225 := Tryz.func181.trans (congrArg some (by kernel_rfl))
  f266 := Tryz.func216.trans (congrArg some (by kernel_rfl))
  f267 := Tryz.func183.trans (congrArg some (by kernel_rfl))
  f314 := Tryz.func217.trans (congrArg some (by kernel_rfl))
  t3 := Tryz.underlying3
  a3 := Tryz.isAgg3
  z3 := Tryz.sizeOf3
  v3 := Tryz.zeroValue3
  t4 := Tryz.underlying4
  a4 := Tryz.isAgg4
  z4 := Tryz.sizeOf4
  v4 := Tryz.zeroValue4
  t5 := Tryz.underlying5
  a5 := Tryz.isAgg5
  z5 := Tryz.sizeOf5
  v5 := Tryz.zeroValue5
  t9 := Tryz.underlying9
  a9 := Tryz.isAgg9
  z9 := Tryz.sizeOf9
  v9 := Tryz.zeroValue9
  t46 := Tryz.underlying280
  a46 := Tryz.isAgg280
  z46 := Tryz.sizeOf280
  v46 := Tryz.zeroValue280
  t51 := Tryz.underlying315
  a51 := Tryz.isAgg315
  z51 := Tryz.sizeOf315
  v51 := Tryz.zeroValue315
  t59 := Tryz.underlying113
  a59 := Tryz.isAgg113
  z59 := Tryz.sizeOf113
  v59 := Tryz.zeroValue113
  t146 := Tryz.underlying322
  a146 := Tryz.isAgg322
  z146 := Tryz.sizeOf322
  v146 := Tryz.zeroValue322
  g1 := by kernel_rfl
def Tryz.lays146_ren : Go.Shelf.Ren := ⟨fun | 146 => 26 | 221 => 47 | 268 => 82 | 138 => 83 | 143 => 84 | 195 => 131 | 197 => 132 | 218 => 133 | 219 => 134 | 260 => 179 | 217 => 180 | 225 => 181 | 224 => 182 | 267 => 183 | 266 => 216 | 314 => 217 | n => n, fun | 9 => 9 | 31 => 52 | 3 => 3 | 4 => 4 | 0 => 0 | 105 => 227 | 21 => 21 | 5 => 5 | 46 => 280 | 119 => 318 | 139 => 321 | 138 => 320 | 146 => 322 | 51 => 315 | n => n, fun | 1 => 0 | 3 => 4 | 4 => 5 | n => n⟩
theorem Tryz.lays146 : Lays.n146 Tryz.prog Tryz.lays146_ren where
  mixed := by kernel_rfl
  f138 := Tryz.func83.trans (congrArg some (by kernel_rfl))
  f143 := Tryz.func84.trans (congrArg some (by kernel_rfl))
  f146 := Tryz.func26.trans (congrArg some (by kernel_rfl))
  f195 := Tryz.func131.trans (congrArg some (by kernel_rfl))
  f197 := Tryz.func132.trans (congrArg some (by kernel_rfl))
  f217 := Tryz.func180.trans (congrArg some (by kernel_rfl))
  f218 := Tryz.func133.trans (congrArg some (by kernel_rfl))
  f219 := Tryz.func134.trans (congrArg some (by kernel_rfl))
  f221 := Tryz.func47.trans (congrArg some (by kernel_rfl))
  f224 := Tryz.func182.trans (congrArg some (by kernel_rfl))
  f225 := Tryz.func181.trans (congrArg some (by kernel_rfl))
  f260 := Tryz.func179.trans (congrArg some (by kernel_rfl))
  f266 := Tryz.func216.trans (congrArg some (by kernel_rfl))
  f267 := Tryz.func183.trans (congrArg some (by kernel_rfl))
  f268 := Tryz.func82.trans (congrArg some (by kernel_rfl))
  f314 := Tryz.func217.trans (congrArg some (by kernel_rfl))
  t0 := Tryz.underlying0
  a0 := Tryz.isAgg0
  z0 := Tryz.sizeOf0
  v0 := Tryz.zeroValue0
  t3 := Tryz.underlying3
  a3 := Tryz.isAgg3
  z3 := Tryz.sizeOf3
  v3 := Tryz.zeroValue3
  t4 := Tryz.underlying4
  a4 := Tryz.isAgg4
  z4 := Tryz.sizeOf4
  v4 := Tryz.zeroValue4
  t5 := Tryz.underlying5
  a5 := Tryz.isAgg5
  z5 := Tryz.sizeOf5
  v5 := Tryz.zeroValue5
  t9 := Tryz.underlying9
  a9 := Tryz.isAgg9
  z9 := Tryz.sizeOf9
  v9 := Tryz.zeroValue9
  t21 := Tryz.underlying21
  a21 := Tryz.isAgg21
  z21 := Tryz.sizeOf21
  v21 := Tryz.zeroValue21
  t31 := Tryz.underlying52
  a31 := Tryz.isAgg52
  z31 := Tryz.sizeOf52
  v31 := Tryz.zeroValue52
  t46 := Tryz.underlying280
  a46 := Tryz.isAgg280
  z46 := Tryz.sizeOf280
  v46 := Tryz.zeroValue280
  t51 := Tryz.underlying315
  a51 := Tryz.isAgg315
  z51 := Tryz.sizeOf315
  v51 := Tryz.zeroValue315
  t105 := Tryz.underlying227
  a105 := Tryz.isAgg227
  z105 := Tryz.sizeOf227
  v105 := Tryz.zeroValue227
  t119 := Tryz.underlying318
  a119 := Tryz.isAgg318
  z119 := Tryz.sizeOf318
  t138 := Tryz.underlying320
  a138 := Tryz.isAgg320
  z138 := Tryz.sizeOf320
  v138 := Tryz.zeroValue320
  t139 := Tryz.underlying321
  a139 := Tryz.isAgg321
  z139 := Tryz.sizeOf321
  v139 := Tryz.zeroValue321
  t146 := Tryz.underlying322
  a146 := Tryz.isAgg322
  z146 := Tryz.sizeOf322
  v146 := Tryz.zeroValue322
  g1 := by kernel_rfl
  g3 := by kernel_rfl
  g4 := by kernel_rfl
def Tryz.lays103_ren : Go.Shelf.Ren := ⟨fun | 103 => 188 | 210 => 221 | 206 => 241 | n => n, fun | 9 => 9 | 4 => 4 | 24 => 167 | 3 => 3 | n => n, fun  | n => n⟩
theorem Tryz.lays103 : Lays.n103 Tryz.prog Tryz.lays103_ren where
  mixed := by kernel_rfl
  f103 := Tryz.func188.trans (congrArg some (by kernel_rfl))
  f206 := Tryz.func241.trans (congrArg some (by kernel_rfl))
  f210 := Tryz.func221.trans (congrArg some (by kernel_rfl))
  t3 := Tryz.underlying3
  a3 := Tryz.isAgg3
  z3 := Tryz.sizeOf3
  v3 := Tryz.zeroValue3
  t4 := Tryz.underlying4
  a4 := Tryz.isAgg4
  z4 := Tryz.sizeOf4
  v4 := Tryz.zeroValue4
  t9 := Tryz.underlying9
  a9 := Tryz.isAgg9
  z9 := Tryz.sizeOf9
  v9 := Tryz.zeroValue9
  t24 := Tryz.underlying167
  a24 := Tryz.isAgg167
  z24 := Tryz.sizeOf167
  v24 := Tryz.zeroValue167
def Tryz.lays156_ren : Go.Shelf.Ren := ⟨fun | 156 => 43 | 165 => 77 | 166 => 78 | 169 => 79 | 240 => 129 | 241 => 130 | 276 => 177 | 277 => 178 | n => n, fun | 31 => 52 | 9 => 9 | 3 => 3 | 4 => 4 | 0 => 0 | 20 => 20 | 72 => 164 | 76 => 111 | 70 => 161 | 37 => 162 | 75 => 110 | 127 => 226 | 164 => 277 | 5 => 5 | 80 => 166 | n => n, fun  | n => n⟩
theorem Tryz.lays156 : Lays.n156 Tryz.prog Tryz.lays156_ren where
  mixed := by kernel_rfl
  f156 := Tryz.func43.trans (congrArg some (by kernel_rfl))
  f165 := Tryz.func77.trans (congrArg some (by kernel_rfl))
  f166 := Tryz.func78.trans (congrArg some (by kernel_rfl))
  f169 := Tryz.func79.trans (congrArg some (by kernel_rfl))
  f240 := Tryz.func129.trans (congrArg some (by kernel_rfl))
  f241 := Tryz.func130.trans (congrArg some (by kernel_rfl))
  f276 := Tryz.func177.trans (congrArg some (by kernel_rfl))
  f277 := Tryz.func178.trans (congrArg some (by kernel_rfl))
  t0 := Tryz.underlying0
  a0 := Tryz.isAgg0
  z0 := Tryz.sizeOf0
  v0 := Tryz.zeroValue0
  t3 := Tryz.underlying3
  a3 := Tryz.isAgg3
  z3 := Tryz.sizeOf3
  v3 := Tryz.zeroValue3
  t4 := Tryz.underlying4
  a4 := Tryz.isAgg4
  z4 := Tryz.sizeOf4
  v4 := Tryz.zeroValue4
  t9 := Tryz.underlying9
  a9 := Tryz.isAgg9
  z9 := Tryz.sizeOf9
  v9 := Tryz.zeroValue9
  t20 := Tryz.underlying20
  a20 := Tryz.isAgg20
  z20 := Tryz.sizeOf20
  v20 := Tryz.zeroValue20
  t31 := Tryz.underlying52
  a31 := Tryz.isAgg52
  z31 := Tryz.sizeOf52
  v31 := Tryz.zeroValue52
  t37 := Tryz.underlying162
  a37 := Tryz.isAgg162
  z37 := Tryz.sizeOf162
  v37 := Tryz.zeroValue162
  t70 := Tryz.underlying161
  a70 := Tryz.isAgg161
  z70 := Tryz.sizeOf161
  v70 := Tryz.zeroValue161
  t72 := Tryz.underlying164
  a72 := Tryz.isAgg164
  z72 := Tryz.sizeOf164
  v72 := Tryz.zeroValue164
  t75 := Tryz.underlying110
  a75 := Tryz.isAgg110
  z75 := Tryz.sizeOf110
  v75 := Tryz.zeroValue110
  t76 := Tryz.underlying111
  a76 := Tryz.isAgg111
  z76 := Tryz.sizeOf111
  v76 := Tryz.zeroValue111
  t127 := Tryz.underlying226
  a127 := Tryz.isAgg226
  z127 := Tryz.sizeOf226
  v127 := Tryz.zeroValue226
  t164 := Tryz.underlying277
  a164 := Tryz.isAgg277
  z164 := Tryz.sizeOf277
  v164 := Tryz.zeroValue277
theorem Tryz.laysB : Builder.Extra Tryz.prog Tryz.lays156_ren where
  sizeBuilder := by kernel_rfl
  liesBuilder := by kernel_rfl
  t5 := Tryz.underlying5
  a5 := Tryz.isAgg5
  z5 := Tryz.sizeOf5
  v5 := Tryz.zeroValue5
  infoByte := by kernel_rfl
  cellsByte := by kernel_rfl
  sizeByte := by kernel_rfl
  neB5 := by decide
def Tryz.lays113_ren : Go.Shelf.Ren := ⟨fun | 113 => 41 | n => n, fun | 28 => 23 | 3 => 3 | 4 => 4 | 9 => 9 | 20 => 20 | 0 => 0 | n => n, fun  | n => n⟩
theorem Tryz.lays113 : Lays.n113 Tryz.prog Tryz.lays113_ren where
  mixed := by kernel_rfl
  f113 := Tryz.func41.trans (congrArg some (by kernel_rfl))
  t0 := Tryz.underlying0
  a0 := Tryz.isAgg0
  z0 := Tryz.sizeOf0
  v0 := Tryz.zeroValue0
  t3 := Tryz.underlying3
  a3 := Tryz.isAgg3
  z3 := Tryz.sizeOf3
  v3 := Tryz.zeroValue3
  t4 := Tryz.underlying4
  a4 := Tryz.isAgg4
  z4 := Tryz.sizeOf4
  v4 := Tryz.zeroValue4
  t9 := Tryz.underlying9
  a9 := Tryz.isAgg9
  z9 := Tryz.sizeOf9
  v9 := Tryz.zeroValue9
  t20 := Tryz.underlying20
  a20 := Tryz.isAgg20
  z20 := Tryz.sizeOf20
  v20 := Tryz.zeroValue20
  t28 := Tryz.underlying23
  a28 := Tryz.isAgg23
  z28 := Tryz.sizeOf23
  v28 := Tryz.zeroValue23
def Tryz.lays114_ren : Go.Shelf.Ren := ⟨fun | 114 => 40 | n => n, fun | 28 => 23 | 3 => 3 | 4 => 4 | 9 => 9 | 20 => 20 | 0 => 0 | n => n, fun  | n => n⟩
theorem Tryz.lays114 : Lays.n114 Tryz.prog Tryz.lays114_ren where
  mixed := by kernel_rfl
  f114 := Tryz.func40.trans (congrArg some (by kernel_rfl))
  t0 := Tryz.underlying0
  a0 := Tryz.isAgg0
  z0 := Tryz.sizeOf0
  v0 := Tryz.zeroValue0
  t3 := Tryz.underlying3
  a3 := Tryz.isAgg3
  z3 := Tryz.sizeOf3
  v3 := Tryz.zeroValue3
  t4 := Tryz.underlying4
  a4 := Tryz.isAgg4
  z4 := Tryz.sizeOf4
  v4 := Tryz.zeroValue4
  t9 := Tryz.underlying9
  a9 := Tryz.isAgg9
  z9 := Tryz.sizeOf9
  v9 := Tryz.zeroValue9
  t20 := Tryz.underlying20
  a20 := Tryz.isAgg20
  z20 := Tryz.sizeOf20
  v20 := Tryz.zeroValue20
  t28 := Tryz.underlying23
  a28 := Tryz.isAgg23
  z28 := Tryz.sizeOf23
  v28 := Tryz.zeroValue23
def Tryz.lays172_ren : Go.Shelf.Ren := ⟨fun | 172 => 48 | 244 => 85 | 245 => 86 | 247 => 135 | 279 => 136 | 280 => 137 | 281 => 138 | 282 => 139 | 287 => 184 | 316 => 185 | 171 => 42 | 205 => 186 | 321 => 218 | 322 => 219 | 243 => 76 | 246 => 128 | 283 => 173 | 284 => 174 | 285 => 175 | 286 => 176 | 129 => 212 | 317 => 211 | 318 => 213 | 319 => 214 | 320 => 215 | 337 => 239 | 338 => 240 | n => n, fun | 9 => 9 | 3 => 3 | 75 => 110 | 76 => 111 | 4 => 4 | 5 => 5 | 167 => 230 | 37 => 162 | 0 => 0 | 85 => 231 | 2 => 2 | 168 => 233 | 53 => 174 | 175 => 281 | 46 => 280 | 210 => 284 | 127 => 226 | 145 => 328 | 143 => 326 | 21 => 21 | 171 => 272 | 173 => 275 | 212 => 314 | 51 => 315 | 20 => 20 | 213 => 316 | 232 => 360 | 233 => 361 | 80 => 166 | n => n, fun | 15 => 1 | 16 => 2 | 17 => 3 | 18 => 6 | 19 => 7 | n => n⟩
theorem Tryz.lays172 : LaysC.n172 Tryz.prog Tryz.lays172_ren where
  mixed := by kernel_rfl
  f129 := Tryz.func212.trans (congrArg some (by kernel_rfl))
  f171 := Tryz.func42.trans (congrArg some (by kernel_rfl))
  f172 := Tryz.func48.trans (congrArg some (by kernel_rfl))
  f205 := Tryz.func186.trans (congrArg some (by kernel_rfl))
  f243 := Tryz.func76.trans (congrArg some (by kernel_rfl))
  f244 := Tryz.func85.trans (congrArg some (by kernel_rfl))
  f245 := Tryz.func86.trans (congrArg some (by kernel_rfl))
  f246 := Tryz.func128.trans (congrArg some (by kernel_rfl))
  f247 := Tryz.func135.trans (congrArg some (by kernel_rfl))
  f279 := Tryz.func136.trans (congrArg some (by kernel_rfl))
  f280 := Tryz.func137.trans (congrArg some (by kernel_rfl))
  f281 := Tryz.func138.trans (congrArg some (by kernel_rfl))
  f282 := Tryz.func139.trans (congrArg some (by kernel_rfl))
  f283 := Tryz.func173.trans (congrArg some (by kernel_rfl))
  f284 := Tryz.func174.trans (congrArg some (by kernel_rfl))
  f285 := Tryz.func175.trans (congrArg some (by kernel_rfl))
  f286 := Tryz.func176.trans (congrArg some (by kernel_rfl))
  f287 := Tryz.func184.trans (congrArg some (by kernel_rfl))
  f316 := Tryz.func185.trans (congrArg some (by kernel_rfl))
  f317 := Tryz.func211.trans (congrArg some (by kernel_rfl))
  f318 := Tryz.func213.trans (congrArg some (by kernel_rfl))
  f319 := Tryz.func214.trans (congrArg some (by kernel_rfl))
  f320 := Tryz.func215.trans (congrArg some (by kernel_rfl))
  f321 := Tryz.func218.trans (congrArg some (by kernel_rfl))
  f322 := Tryz.func219.trans (congrArg some (by kernel_rfl))
  f337 := Tryz.func239.trans (congrArg some (by kernel_rfl))
  f338 := Tryz.func240.trans (congrArg some (by kernel_rfl))
  t0 := Tryz.underlying0
  a0 := Tryz.isAgg0
  z0 := Tryz.sizeOf0
  v0 := Tryz.zeroValue0
  t2 := Tryz.underlying2
  a2 := Tryz.isAgg2
  z2 := Tryz.sizeOf2
  v2 := Tryz.zeroValue2
  t3 := Tryz.underlying3
  a3 := Tryz.isAgg3
  z3 := Tryz.sizeOf3
  v3 := Tryz.zeroValue3
  t4 := Tryz.underlying4
  a4 := Tryz.isAgg4
  z4 := Tryz.sizeOf4
  v4 := Tryz.zeroValue4
  t5 := Tryz.underlying5
  a5 := Tryz.isAgg5
  z5 := Tryz.sizeOf5
  v5 := Tryz.zeroValue5
  t9 := Tryz.underlying9
  a9 := Tryz.isAgg9
  z9 := Tryz.sizeOf9
  v9 := Tryz.zeroValue9
  t20 := Tryz.underlying20
  a20 := Tryz.isAgg20
  z20 := Tryz.sizeOf20
  v20 := Tryz.zeroValue20
  t21 := Tryz.underlying21
  a21 := Tryz.isAgg21
  z21 := Tryz.sizeOf21
  v21 := Tryz.zeroValue21
  t37 := Tryz.underlying162
  a37 := Tryz.isAgg162
  z37 := Tryz.sizeOf162
  v37 := Tryz.zeroValue162
  t46 := Tryz.underlying280
  a46 := Tryz.isAgg280
  z46 := Tryz.sizeOf280
  v46 := Tryz.zeroValue280
  t51 := Tryz.underlying315
  a51 := Tryz.isAgg315
  z51 := Tryz.sizeOf315
  v51 := Tryz.zeroValue315
  t53 := Tryz.underlying174
  a53 := Tryz.isAgg174
  z53 := Tryz.sizeOf174
  v53 := Tryz.zeroValue174
  t75 := Tryz.underlying110
  a75 := Tryz.isAgg110
  z75 := Tryz.sizeOf110
  v75 := Tryz.zeroValue110
  t76 := Tryz.underlying111
  a76 := Tryz.isAgg111
  z76 := Tryz.sizeOf111
  v76 := Tryz.zeroValue111
  t85 := Tryz.underlying231
  a85 := Tryz.isAgg231
  z85 := Tryz.sizeOf231
  v85 := Tryz.zeroValue231
  t127 := Tryz.underlying226
  a127 := Tryz.isAgg226
  z127 := Tryz.sizeOf226
  v127 := Tryz.zeroValue226
  t143 := Tryz.underlying326
  a143 := Tryz.isAgg326
  z143 := Tryz.sizeOf326
  v143 := Tryz.zeroValue326
  t145 := Tryz.underlying328
  a145 := Tryz.isAgg328
  z145 := Tryz.sizeOf328
  v145 := Tryz.zeroValue328
  t167 := Tryz.underlying230
  a167 := Tryz.isAgg230
  z167 := Tryz.sizeOf230
  v167 := Tryz.zeroValue230
  t168 := Tryz.underlying233
  a168 := Tryz.isAgg233
  z168 := Tryz.sizeOf233
  v168 := Tryz.zeroValue233
  t171 := Tryz.underlying272
  a171 := Tryz.isAgg272
  z171 := Tryz.sizeOf272
  v171 := Tryz.zeroValue272
  t173 := Tryz.underlying275
  a173 := Tryz.isAgg275
  z173 := Tryz.sizeOf275
  v173 := Tryz.zeroValue275
  t175 := Tryz.underlying281
  a175 := Tryz.isAgg281
  z175 := Tryz.sizeOf281
  v175 := Tryz.zeroValue281
  t210 := Tryz.underlying284
  a210 := Tryz.isAgg284
  z210 := Tryz.sizeOf284
  v210 := Tryz.zeroValue284
  t212 := Tryz.underlying314
  a212 := Tryz.isAgg314
  z212 := Tryz.sizeOf314
  v212 := Tryz.zeroValue314
  t213 := Tryz.underlying316
  a213 := Tryz.isAgg316
  z213 := Tryz.sizeOf316
  t232 := Tryz.underlying360
  a232 := Tryz.isAgg360
  z232 := Tryz.sizeOf360
  v232 := Tryz.zeroValue360
  t233 := Tryz.underlying361
  a233 := Tryz.isAgg361
  z233 := Tryz.sizeOf361
  v233 := Tryz.zeroValue361
  g15 := by kernel_rfl
  g16 := by kernel_rfl
  g17 := by kernel_rfl
  g18 := by kernel_rfl
  g19 := by kernel_rfl
  t80 := Tryz.underlying166
  a80 := Tryz.isAgg166
  z80 := Tryz.sizeOf166
  v80 := Tryz.zeroValue166
  i0 := by kernel_rfl
  i2 := by kernel_rfl
  i3 := by kernel_rfl
  i4 := by kernel_rfl
  i5 := by kernel_rfl
  i9 := by kernel_rfl
  i20 := by kernel_rfl
  i21 := by kernel_rfl
  i37 := by kernel_rfl
  i46 := by kernel_rfl
  i51 := by kernel_rfl
  i53 := by kernel_rfl
  i75 := by kernel_rfl
  i76 := by kernel_rfl
  i80 := by kernel_rfl
  i85 := by kernel_rfl
  i127 := by kernel_rfl
  i143 := by kernel_rfl
  i145 := by kernel_rfl
  i167 := by kernel_rfl
  i168 := by kernel_rfl
  i171 := by kernel_rfl
  i173 := by kernel_rfl
  i175 := by kernel_rfl
  i210 := by kernel_rfl
  i212 := by kernel_rfl
  i232 := by kernel_rfl
  i233 := by kernel_rfl
  m15 := by kernel_rfl
  m16 := by kernel_rfl
  m17 := by kernel_rfl
  m18 := by kernel_rfl
  m19 := by kernel_rfl
  c0 := by kernel_rfl
  c2 := by kernel_rfl
  c3 := by kernel_rfl
  c4 := by kernel_rfl
  c5 := by kernel_rfl
  c9 := by kernel_rfl
  c20 := by kernel_rfl
  c21 := by kernel_rfl
  c37 := by kernel_rfl
  c46 := by kernel_rfl
  c51 := by kernel_rfl
  c53 := by kernel_rfl
  c75 := by kernel_rfl
  c76 := by kernel_rfl
  c80 := by kernel_rfl
  c85 := by kernel_rfl
  c127 := by kernel_rfl
  c143 := by kernel_rfl
  c145 := by kernel_rfl
  c167 := by kernel_rfl
  c168 := by kernel_rfl
  c171 := by kernel_rfl
  c173 := by kernel_rfl
  c175 := by kernel_rfl
  c210 := by kernel_rfl
  c212 := by kernel_rfl
  c213 := by kernel_rfl
  c232 := by kernel_rfl
  c233 := by kernel_rfl
def Tryz.lays171_ren : Go.Shelf.Ren := ⟨fun | 171 => 42 | 243 => 76 | 246 => 128 | 283 => 173 | 284 => 174 | 285 => 175 | 286 => 176 | 129 => 212 | 317 => 211 | 318 => 213 | 319 => 214 | 320 => 215 | 337 => 239 | 338 => 240 | n => n, fun | 3 => 3 | 9 => 9 | 2 => 2 | 4 => 4 | 171 => 272 | 0 => 0 | 53 => 174 | 37 => 162 | 5 => 5 | 173 => 275 | 212 => 314 | 51 => 315 | 20 => 20 | 213 => 316 | 46 => 280 | 232 => 360 | 233 => 361 | n => n, fun | 17 => 3 | 18 => 6 | 19 => 7 | n => n⟩
theorem Tryz.lays171 : LaysM.n171 Tryz.prog Tryz.lays171_ren where
  mixed := by kernel_rfl
  f129 := Tryz.func212.trans (congrArg some (by kernel_rfl))
  f171 := Tryz.func42.trans (congrArg some (by kernel_rfl))
  f243 := Tryz.func76.trans (congrArg some (by kernel_rfl))
  f246 := Tryz.func128.trans (congrArg some (by kernel_rfl))
  f283 := Tryz.func173.trans (congrArg some (by kernel_rfl))
  f284 := Tryz.func174.trans (congrArg some (by kernel_rfl))
  f285 := Tryz.func175.trans (congrArg some (by kernel_rfl))
  f286 := Tryz.func176.trans (congrArg some (by kernel_rfl))
  f317 := Tryz.func211.trans (congrArg some (by kernel_rfl))
  f318 := Tryz.func213.trans (congrArg some (by kernel_rfl))
  f319 := Tryz.func214.trans (congrArg some (by kernel_rfl))
  f320 := Tryz.func215.trans (congrArg some (by kernel_rfl))
  f337 := Tryz.func239.trans (congrArg some (by kernel_rfl))
  f338 := Tryz.func240.trans (congrArg some (by kernel_rfl))
  t0 := Tryz.underlying0
  a0 := Tryz.isAgg0
  z0 := Tryz.sizeOf0
  v0 := Tryz.zeroValue0
  t2 := Tryz.underlying2
  a2 := Tryz.isAgg2
  z2 := Tryz.sizeOf2
  v2 := Tryz.zeroValue2
  t3 := Tryz.underlying3
  a3 := Tryz.isAgg3
  z3 := Tryz.sizeOf3
  v3 := Tryz.zeroValue3
  t4 := Tryz.underlying4
  a4 := Tryz.isAgg4
  z4 := Tryz.sizeOf4
  v4 := Tryz.zeroValue4
  t5 := Tryz.underlying5
  a5 := Tryz.isAgg5
  z5 := Tryz.sizeOf5
  v5 := Tryz.zeroValue5
  t9 := Tryz.underlying9
  a9 := Tryz.isAgg9
  z9 := Tryz.sizeOf9
  v9 := Tryz.zeroValue9
  t20 := Tryz.underlying20
  a20 := Tryz.isAgg20
  z20 := Tryz.sizeOf20
  v20 := Tryz.zeroValue20
  t37 := Tryz.underlying162
  a37 := Tryz.isAgg162
  z37 := Tryz.sizeOf162
  v37 := Tryz.zeroValue162
  t46 := Tryz.underlying280
  a46 := Tryz.isAgg280
  z46 := Tryz.sizeOf280
  v46 := Tryz.zeroValue280
  t51 := Tryz.underlying315
  a51 := Tryz.isAgg315
  z51 := Tryz.sizeOf315
  v51 := Tryz.zeroValue315
  t53 := Tryz.underlying174
  a53 := Tryz.isAgg174
  z53 := Tryz.sizeOf174
  v53 := Tryz.zeroValue174
  t171 := Tryz.underlying272
  a171 := Tryz.isAgg272
  z171 := Tryz.sizeOf272
  v171 := Tryz.zeroValue272
  t173 := Tryz.underlying275
  a173 := Tryz.isAgg275
  z173 := Tryz.sizeOf275
  v173 := Tryz.zeroValue275
  t212 := Tryz.underlying314
  a212 := Tryz.isAgg314
  z212 := Tryz.sizeOf314
  v212 := Tryz.zeroValue314
  t213 := Tryz.underlying316
  a213 := Tryz.isAgg316
  z213 := Tryz.sizeOf316
  t232 := Tryz.underlying360
  a232 := Tryz.isAgg360
  z232 := Tryz.sizeOf360
  v232 := Tryz.zeroValue360
  t233 := Tryz.underlying361
  a233 := Tryz.isAgg361
  z233 := Tryz.sizeOf361
  v233 := Tryz.zeroValue361
  g17 := by kernel_rfl
  g18 := by kernel_rfl
  g19 := by kernel_rfl
  i0 := by kernel_rfl
  i2 := by kernel_rfl
  i3 := by kernel_rfl
  i4 := by kernel_rfl
  i5 := by kernel_rfl
  i9 := by kernel_rfl
  i20 := by kernel_rfl
  i37 := by kernel_rfl
  i46 := by kernel_rfl
  i51 := by kernel_rfl
  i53 := by kernel_rfl
  i171 := by kernel_rfl
  i173 := by kernel_rfl
  i212 := by kernel_rfl
  i232 := by kernel_rfl
  i233 := by kernel_rfl
  m17 := by kernel_rfl
  m18 := by kernel_rfl
  m19 := by kernel_rfl
end Go.Proofs

set_option linter.unusedVariables false
set_option linter.unusedSectionVars false
set_option linter.unnecessarySimpa false
set_option linter.unusedSimpArgs false
namespace Go.Proofs.YtblnfodnkacbbaaGreatDoor.Q
open Go.RowKit

/-! ### data -/
structure Pk where
  kind : Int
  thread : Int
  draw : Int
deriving DecidableEq
def Pk.e (p : Pk) : List D := [.int .i64 p.kind, .int .i64 p.thread, .int .i64 p.draw]
def Pk.v (p : Pk) : V := .agg [.d (.int .i64 p.kind), .d (.int .i64 p.thread), .d (.int .i64 p.draw)]
structure Ls where
  stem : List Pk
  loop : List Pk
  thread : Int
def Ls.v (l : Ls) : V := .agg [.d (.sl (l.stem.map Pk.e)), .d (.sl (l.loop.map Pk.e)), .d (.int .i64 l.thread)]
structure Vd where
  kind : Int
  err : Int
  at' : Int
  seen : Int
  counts : List Int
  what : Int
  way : Ls
def icell (n : Int) : List D := [.int .i64 n]
def Vd.v (v : Vd) : V := .agg [.d (.int .i64 v.kind), .d (.int .i64 v.err), .d (.int .i64 v.at'), .d (.int .i64 v.seen), .d (.sl (v.counts.map icell)), .d (.int .i64 v.what), .d (.sl (v.way.stem.map Pk.e)), .d (.sl (v.way.loop.map Pk.e)), .d (.int .i64 v.way.thread)]
def Vd.cells (v : Vd) : List V := [.d (.int .i64 v.kind), .d (.int .i64 v.err), .d (.int .i64 v.at'), .d (.int .i64 v.seen), .d (.sl (v.counts.map icell)), .d (.int .i64 v.what), .d (.sl (v.way.stem.map Pk.e)), .d (.sl (v.way.loop.map Pk.e)), .d (.int .i64 v.way.thread)]
def Ls.zero : Ls := ⟨[], [], 0⟩
def Vd.zero : Vd := ⟨0, 0, 0, 0, [], 0, .zero⟩

/-! ### texts -/
def pickS (p : Pk) : Str × Bool :=
  if p.thread < 0 ∨ p.draw < 0 ∨ 999999 < p.thread ∨ 999999 < p.draw then ([], false)
  else if p.kind = 0 then (if 0 < p.draw then (Lib.itoa p.thread ++ [46] ++ Lib.itoa p.draw, true) else (Lib.itoa p.thread, true))
  else if p.kind = 1 then ([115] ++ Lib.itoa p.thread, decide (p.draw = 0))
  else ([116], decide (p = ⟨2, 0, 0⟩))
def putPs (l : List Pk) : Str × Int :=
  if 20000 < l.length then ([], 6) else if (l.all fun p => (pickS p).2) = true then (Lib.join (l.map fun p => (pickS p).1) [32], 0) else ([], 2)
def bar : Str := [32, 124, 32]
def putL (l : Ls) : Str × Int :=
  if (putPs l.stem).2 ≠ 0 then ([], (putPs l.stem).2)
  else if (putPs l.loop).2 ≠ 0 then ([], (putPs l.loop).2)
  else if l.thread < 0 ∨ 999999 < l.thread then ([], 2)
  else (Lib.join [(putPs l.stem).1, (putPs l.loop).1, Lib.itoa l.thread] bar, 0)
def plainWay (v : Vd) : Bool := decide (v.counts.length + v.way.stem.length + v.way.loop.length = 0) && decide (v.what = 0) && decide (v.way.thread = 0)
def plainErr (v : Vd) : Bool := decide (v.err = 0) && decide (v.at' = 0)
def isPlainS (v : Vd) : Bool :=
  if v.kind = 1 then plainWay v && decide (v.seen = 0)
  else if v.kind = 2 ∨ v.kind = 4 then plainWay v && plainErr v
  else if v.kind = 3 then plainErr v
  else false
def most : Int := 1099511627776
def areNumsS (v : Vd) : Bool := ([v.seen, v.at', v.err, v.what, v.way.thread] ++ v.counts).all fun n => decide (0 ≤ n) && decide (n ≤ most)
def wErr : Str := [101, 114, 114, 111, 114]
def wAcc : Str := [97, 99, 99, 101, 112, 116]
def wUnk : Str := [117, 110, 107, 110, 111, 119, 110]
def wRej : Str := [114, 101, 106, 101, 99, 116]
def rejWords (v : Vd) (way : Str) : List Str := ([wRej, Lib.itoa v.seen] ++ v.counts.map Lib.itoa) ++ [[58], Lib.itoa v.what, [124], way]
def putV (v : Vd) : Str × Int :=
  if (!isPlainS v || !areNumsS v) = true then ([], 2)
  else if v.kind = 1 then (Lib.join [wErr, Lib.itoa v.err, Lib.itoa v.at'] [32], 0)
  else if v.kind = 2 then (Lib.join [wAcc, Lib.itoa v.seen] [32], 0)
  else if v.kind = 4 then (Lib.join [wUnk, Lib.itoa v.seen] [32], 0)
  else if (putL v.way).2 ≠ 0 then ([], (putL v.way).2)
  else (Lib.join (rejWords v (putL v.way).1) [32], 0)

/-! ### parsers -/
def numS (s : Str) : Int := match Lib.atoiAll s with
  | .ok n => n
  | _ => -1
def numP (s : Str) : Int := match Lib.atoiAll s with
  | .ok n => if 999999 < n ∨ Lib.itoa n ≠ s then -1 else n
  | _ => -1
def pickP (s : Str) : Pk :=
  if s = [116] then ⟨2, 0, 0⟩
  else if Lib.hasPrefix s [115] = true then ⟨1, numP (Lib.trimPrefix s [115]), 0⟩
  else ⟨0, numP (Lib.cut s [46]).1, if (Lib.cut s [46]).2.2 = true then numP (Lib.cut s [46]).2.1 else 0⟩
/-- One word more; none: it is no pick, or one too many. -/
def pickOk (n : Nat) (w : Str) : Bool := (pickS (pickP w)).2 && ((pickS (pickP w)).1 == w) && decide (n < 20000)
def pksGo : List Pk → List Str → Option (List Pk)
  | l, [] => some l
  | l, w :: ws => if pickOk l.length w = true then pksGo (l ++ [pickP w]) ws else none
def parsePs (s : Str) : List Pk × Int :=
  if s = [] then ([], 0) else match pksGo [] (Lib.split s [32]) with
    | some l => (l, 0)
    | none => ([], 2)
def parseL (s : Str) : Ls × Int := match Lib.split s bar with
  | [a, b, c] => match Lib.atoiAll c with
    | .ok t => if (parsePs a).2 = 0 ∧ (parsePs b).2 = 0 ∧ putL ⟨(parsePs a).1, (parsePs b).1, t⟩ = (s, 0) then (⟨(parsePs a).1, (parsePs b).1, t⟩, 0) else (.zero, 2)
    | _ => (.zero, 2)
  | _ => (.zero, 2)
def colon : Str := [32, 58, 32]
def rejS (s : Str) : Vd :=
  let c := Lib.cut s colon
  let d := Lib.cut c.2.1 bar
  let l := Lib.split c.1 [32]
  ⟨3, 0, 0, (match l with | _ :: b :: _ => numS b | _ => 0), (l.drop 2).map numS, numS d.1, (parseL d.2.1).1⟩
def guessV (s : Str) : Vd :=
  match Lib.split s [32] with
  | [a, b, c] => if a = wErr then ⟨1, numS b, numS c, 0, [], 0, .zero⟩ else rejS s
  | [a, b] => if a = wAcc then ⟨2, 0, 0, numS b, [], 0, .zero⟩ else if a = wUnk then ⟨4, 0, 0, numS b, [], 0, .zero⟩ else rejS s
  | _ => rejS s
def parseV (s : Str) : Vd × Int := if putV (guessV s) = (s, 0) then (guessV s, 0) else (.zero, 2)
end Go.Proofs.YtblnfodnkacbbaaGreatDoor.Q

namespace Go.Proofs.YtblnfodnkacbbaaGreatDoor.Q
open Go.RowKit

/-! ### numerals -/
theorem dec_unfold (n : Nat) : Lib.decDigits n = if n < 10 then [UInt8.ofNat (48 + n)] else Lib.decDigits (n / 10) ++ [UInt8.ofNat (48 + n % 10)] := by
  rw [Lib.decDigits]
  by_cases h : n < 10
  · rw [dif_pos h, if_pos h]
  · rw [dif_neg h, if_neg h]
theorem u8_dig {n : Nat} (h : n < 10) : (UInt8.ofNat (48 + n)).toNat = 48 + n := by
  rw [UInt8.toNat_ofNat']; omega
theorem dec_digs (n : Nat) : ∀ b ∈ Lib.decDigits n, 48 ≤ b.toNat ∧ b.toNat ≤ 57 := by
  induction n using Nat.strongRecOn with
  | _ n ih =>
    rw [dec_unfold]
    intro b hb
    split at hb
    · rename_i h
      rw [List.mem_singleton] at hb; subst hb
      rw [u8_dig h]; omega
    · rw [List.mem_append, List.mem_singleton] at hb
      rcases hb with hb | rfl
      · exact ih (n / 10) (by omega) b hb
      · rw [u8_dig (Nat.mod_lt _ (by decide))]; have := Nat.mod_lt n (show 0 < 10 by decide); omega
theorem dec_ne (n : Nat) : Lib.decDigits n ≠ [] := by
  rw [dec_unfold]; split <;> simp
theorem parse_app (r : Str) : ∀ (l : Str) (a : Nat), Lib.parseUint10 a (l ++ r) = match Lib.parseUint10 a l with
    | .ok u => Lib.parseUint10 u r
    | e => e
  | [], a => by simp [Lib.parseUint10]
  | c :: l, a => by
    rw [List.cons_append, Lib.parseUint10, Lib.parseUint10]
    split
    · split
      · rfl
      · split
        · rfl
        · exact parse_app r l _
    · rfl
theorem parse_dec (n : Nat) : n < 9223372036854775808 → Lib.parseUint10 0 (Lib.decDigits n) = .ok n := by
  induction n using Nat.strongRecOn with
  | _ n ih =>
    intro hn
    rw [dec_unfold]
    split
    · rename_i h
      have hd := u8_dig h
      simp only [Lib.parseUint10, hd]
      rw [if_pos (by omega), if_neg (by omega), if_neg (by omega)]
      congr 1; omega
    · rename_i h
      rw [parse_app, ih (n / 10) (by omega) (by omega)]
      have hd := u8_dig (Nat.mod_lt n (show 0 < 10 by decide))
      have hm := Nat.mod_lt n (show 0 < 10 by decide)
      simp only [Lib.parseUint10, hd]
      rw [if_pos (by omega), if_neg (by omega), if_neg (by omega)]
      congr 1; omega
theorem itoa_dec {n : Int} (h : 0 ≤ n) : Lib.itoa n = Lib.decDigits n.toNat := by unfold Lib.itoa; rw [if_neg (by omega)]
theorem itoa_digs {n : Int} (h : 0 ≤ n) : ∀ b ∈ Lib.itoa n, 48 ≤ b.toNat ∧ b.toNat ≤ 57 := by rw [itoa_dec h]; exact dec_digs _
theorem itoa_ne (n : Int) : Lib.itoa n ≠ [] := by unfold Lib.itoa; split; simp; exact dec_ne _
theorem itoa_out {n : Int} (h : 0 ≤ n) {c : UInt8} (hc : c.toNat < 48 ∨ 57 < c.toNat) : c ∉ Lib.itoa n := fun hm => by
  have := itoa_digs h c hm
  omega
theorem atoi_itoa {n : Int} (h0 : 0 ≤ n) (h1 : n ≤ 9223372036854775807) : Lib.atoiAll (Lib.itoa n) = .ok n := by
  rw [itoa_dec h0]
  have hd := dec_digs n.toNat
  have hp := parse_dec n.toNat (by omega)
  cases hl : Lib.decDigits n.toNat with
  | nil => exact absurd hl (dec_ne _)
  | cons c r =>
    rw [hl] at hd hp
    have hc := hd c List.mem_cons_self
    rw [Lib.atoiAll_plain c r (by omega) (by omega)]
    unfold Lib.parseMag
    rw [if_neg (by simp), hp]
    unfold Lib.signless
    dsimp only
    rw [if_neg (by omega)]
    congr 1; omega
theorem numS_itoa {n : Int} (h0 : 0 ≤ n) (h1 : n ≤ 9223372036854775807) : numS (Lib.itoa n) = n := by unfold numS; rw [atoi_itoa h0 h1]
theorem numP_itoa {n : Int} (h0 : 0 ≤ n) (h1 : n ≤ 999999) : numP (Lib.itoa n) = n := by
  unfold numP; rw [atoi_itoa h0 (by omega)]
  dsimp only
  rw [if_neg]; rintro (h | h)
  · omega
  · exact h rfl

/-! ### places of separators -/
theorem ix_cons (b : UInt8) (l sub : Str) : Lib.index (b :: l) sub = if sub.isPrefixOf (b :: l) = true then 0 else if Lib.index l sub == -1 then -1 else Lib.index l sub + 1 := by rw [Lib.index]
theorem index_one {c : UInt8} (r : Str) : ∀ {w : Str}, c ∉ w → Lib.index (w ++ c :: r) [c] = (w.length : Int)
  | [], _ => by rw [List.nil_append, ix_cons]; simp [List.isPrefixOf]
  | x :: w, h => by
    have hx : c ≠ x := fun e => h (e ▸ List.mem_cons_self)
    have ih := index_one r (w := w) fun hm => h (List.mem_cons_of_mem _ hm)
    have hp : ([c] : Str).isPrefixOf (x :: (w ++ c :: r)) = false := by simp [List.isPrefixOf, hx]
    rw [List.cons_append, ix_cons, hp, ih, if_neg (by simp), if_neg (by simp <;> omega)]
    simp
theorem index_one0 {c : UInt8} : ∀ {w : Str}, c ∉ w → Lib.index w [c] = -1
  | [], _ => by simp [Lib.index]
  | x :: w, h => by
    have hx : c ≠ x := fun e => h (e ▸ List.mem_cons_self)
    have ih := index_one0 (w := w) fun hm => h (List.mem_cons_of_mem _ hm)
    have hp : ([c] : Str).isPrefixOf (x :: w) = false := by simp [List.isPrefixOf, hx]
    rw [ix_cons, hp, ih]; simp
theorem index_bar {a b c : UInt8} (hac : a ≠ c) (r : Str) : ∀ {w : Str}, c ∉ w → Lib.index (w ++ a :: c :: b :: r) [a, c, b] = (w.length : Int)
  | [], _ => by rw [List.nil_append, ix_cons]; simp [List.isPrefixOf]
  | [x], h => by
    have ih := index_bar (b := b) hac r (w := []) (by simp)
    have hp : ([a, c, b] : Str).isPrefixOf (x :: ([] ++ a :: c :: b :: r)) = false := by simp [List.isPrefixOf, Ne.symm hac]
    rw [List.cons_append, ix_cons, hp, ih, if_neg (by simp), if_neg (by simp)]
    simp
  | x :: y :: w, h => by
    have hy : c ≠ y := fun e => h (e ▸ List.mem_cons_of_mem _ List.mem_cons_self)
    have ih := index_bar (b := b) hac r (w := y :: w) fun hm => h (List.mem_cons_of_mem _ hm)
    have hp : ([a, c, b] : Str).isPrefixOf (x :: (y :: w ++ a :: c :: b :: r)) = false := by simp [List.isPrefixOf, hy]
    rw [List.cons_append, ix_cons, hp, ih, if_neg (by simp), if_neg (by simp <;> omega)]
    simp
theorem index_bar0 {a b c : UInt8} : ∀ {w : Str}, c ∉ w → Lib.index w [a, c, b] = -1
  | [], _ => by simp [Lib.index]
  | x :: w, h => by
    have ih := index_bar0 (a := a) (b := b) (w := w) fun hm => h (List.mem_cons_of_mem _ hm)
    have hp : ([a, c, b] : Str).isPrefixOf (x :: w) = false := by
      cases w with
      | nil => simp [List.isPrefixOf]
      | cons y w =>
        have hy : c ≠ y := fun e => h (e ▸ List.mem_cons_of_mem _ List.mem_cons_self)
        simp [List.isPrefixOf, hy]
    rw [ix_cons, hp, ih]; simp

/-! ### cut and split -/
theorem split_miss {s sep : Str} (h : Lib.index s sep = -1) : Lib.split s sep = [s] := by
  unfold Lib.split; rw [Lib.count_miss h]; rfl
theorem split_hit {s sep : Str} {i : Nat} (hs : sep ≠ []) (h : Lib.index s sep = i) : Lib.split s sep = s.take i :: Lib.split (s.drop (i + sep.length)) sep := by
  unfold Lib.split
  rw [Lib.count_hit hs h, Nat.add_comm 1, Lib.splitK, if_neg (by simp only [beq_iff_eq]; omega)]
  have e : (Lib.index s sep).toNat = i := by omega
  rw [e, Nat.add_zero]
/-- The first separator stands right behind w. -/
def First (w sep : Str) : Prop := Lib.index w sep = -1 ∧ ∀ r, Lib.index (w ++ sep ++ r) sep = (w.length : Int)
theorem first_one {c : UInt8} {w : Str} (h : c ∉ w) : First w [c] := ⟨index_one0 h, fun r => by rw [List.append_assoc]; exact index_one r h⟩
theorem first_bar {a b c : UInt8} {w : Str} (hac : a ≠ c) (h : c ∉ w) : First w [a, c, b] := ⟨index_bar0 h, fun r => by rw [List.append_assoc]; exact index_bar hac r h⟩
theorem cut_first {w sep : Str} (h : First w sep) (r : Str) : Lib.cut (w ++ sep ++ r) sep = (w, r, true) := by
  unfold Lib.cut
  rw [h.2 r, if_pos (by omega)]
  have e : ((w.length : Int)).toNat = w.length := by omega
  rw [e]
  congr 1
  · rw [List.append_assoc, List.take_left']; rfl
  · congr 1
    rw [← List.length_append, List.drop_left']; rfl
theorem cut_none {w sep : Str} (h : First w sep) : Lib.cut w sep = (w, [], false) := by
  unfold Lib.cut; rw [h.1, if_neg (by omega)]
theorem split_first {w sep : Str} (hs : sep ≠ []) (h : First w sep) (r : Str) : Lib.split (w ++ sep ++ r) sep = w :: Lib.split r sep := by
  rw [split_hit hs (h.2 r)]
  congr 1
  · rw [List.append_assoc, List.take_left']; rfl
  · congr 1
    rw [← List.length_append, List.drop_left']; rfl
theorem join_two (x y : Str) (r : List Str) (sep : Str) : Lib.join (x :: y :: r) sep = x ++ sep ++ Lib.join (y :: r) sep := by
  rw [Lib.join_cons, Lib.join_cons]; simp [Lib.joinTail]
theorem split_join {sep : Str} (hs : sep ≠ []) : ∀ {ws : List Str}, ws ≠ [] → (∀ w ∈ ws, First w sep) → Lib.split (Lib.join ws sep) sep = ws
  | [], h, _ => absurd rfl h
  | [w], _, h => by rw [Lib.join_one]; exact split_miss (h w List.mem_cons_self).1
  | w :: y :: r, _, h => by
    rw [join_two, split_first hs (h w List.mem_cons_self), split_join hs (by simp) fun v hv => h v (List.mem_cons_of_mem _ hv)]
theorem join_out {c : UInt8} {sep : Str} (hc : c ∉ sep) : ∀ {ws : List Str}, (∀ w ∈ ws, c ∉ w) → c ∉ Lib.join ws sep
  | [], _ => by rw [Lib.join_nil]; simp
  | [w], h => by rw [Lib.join_one]; exact h w List.mem_cons_self
  | w :: y :: r, h => by
    rw [join_two]
    have ih := join_out hc (ws := y :: r) fun v hv => h v (List.mem_cons_of_mem _ hv)
    simp only [List.mem_append, not_or]
    exact ⟨⟨h w List.mem_cons_self, hc⟩, ih⟩
theorem join_app (sep : Str) : ∀ (xs ys : List Str), xs ≠ [] → ys ≠ [] → Lib.join (xs ++ ys) sep = Lib.join xs sep ++ sep ++ Lib.join ys sep
  | [], _, h, _ => absurd rfl h
  | [x], y :: ys, _, _ => by rw [List.singleton_append, join_two, Lib.join_one]
  | [x], [], _, h => absurd rfl h
  | x :: z :: xs, ys, _, hy => by
    rw [List.cons_append, List.cons_append, join_two, join_two, ← List.cons_append, join_app sep (z :: xs) ys (by simp) hy]
    simp [List.append_assoc]
theorem join_ne {sep : Str} : ∀ {ws : List Str}, ws ≠ [] → (∀ w ∈ ws, w ≠ []) → Lib.join ws sep ≠ []
  | [], h, _ => absurd rfl h
  | w :: r, _, h => by
    rw [Lib.join_cons]
    have := h w List.mem_cons_self
    simp [this]

/-! ### picks -/
theorem pick_back {p : Pk} {t : Str} (h : pickS p = (t, true)) : pickP t = p ∧ t ≠ [] ∧ (32 : UInt8) ∉ t ∧ (124 : UInt8) ∉ t ∧ (58 : UInt8) ∉ t := by
  obtain ⟨k, th, dr⟩ := p
  unfold pickS at h
  dsimp only at h
  split at h
  · cases h
  rename_i hb
  have h1 : 0 ≤ th ∧ th ≤ 999999 ∧ 0 ≤ dr ∧ dr ≤ 999999 := by omega
  have o1 : ∀ {c : UInt8}, (c.toNat < 48 ∨ 57 < c.toNat) → c ∉ Lib.itoa th := fun hc => itoa_out h1.1 hc
  have o2 : ∀ {c : UInt8}, (c.toNat < 48 ∨ 57 < c.toNat) → c ∉ Lib.itoa dr := fun hc => itoa_out h1.2.2.1 hc
  have ne1 := itoa_ne th
  have head : ∀ r : Str, Lib.itoa th ++ r ≠ [116] ∧ Lib.hasPrefix (Lib.itoa th ++ r) [115] = false := by
    intro r
    have hd := itoa_digs h1.1
    cases hl : Lib.itoa th with
    | nil => exact absurd hl ne1
    | cons c q =>
      rw [hl] at hd
      have hc := hd c List.mem_cons_self
      refine ⟨fun e => ?_, ?_⟩
      · injection e with e _
        subst e
        have e2 : (116 : UInt8).toNat = 116 := rfl
        omega
      · unfold Lib.hasPrefix
        rw [List.cons_append, List.isPrefixOf]
        have : ((115 : UInt8) == c) = false := by
          rw [beq_eq_false_iff_ne]
          rintro rfl
          have e2 : (115 : UInt8).toNat = 115 := rfl
          omega
        rw [this]; rfl
  split at h
  · rename_i hk
    subst hk
    split at h
    · rename_i hd
      injection h with h _
      subst h
      refine ⟨?_, by simp [ne1], ?_, ?_, ?_⟩
      · unfold pickP
        have hh := head ([46] ++ Lib.itoa dr)
        rw [← List.append_assoc] at hh
        rw [if_neg hh.1, hh.2, if_neg (by simp), cut_first (first_one (o1 (.inl (by decide))))]
        dsimp only
        rw [if_pos rfl, numP_itoa h1.1 h1.2.1, numP_itoa h1.2.2.1 h1.2.2.2]
      · simp only [List.mem_append, not_or]; exact ⟨⟨o1 (.inl (by decide)), by decide⟩, o2 (.inl (by decide))⟩
      · simp only [List.mem_append, not_or]; exact ⟨⟨o1 (.inr (by decide)), by decide⟩, o2 (.inr (by decide))⟩
      · simp only [List.mem_append, not_or]; exact ⟨⟨o1 (.inr (by decide)), by decide⟩, o2 (.inr (by decide))⟩
    · rename_i hd
      injection h with h _
      subst h
      have hdr : dr = 0 := by omega
      subst hdr
      refine ⟨?_, ne1, o1 (.inl (by decide)), o1 (.inr (by decide)), o1 (.inr (by decide))⟩
      unfold pickP
      have hh := head []
      rw [List.append_nil] at hh
      rw [if_neg hh.1, hh.2, if_neg (by simp), cut_none (first_one (o1 (.inl (by decide))))]
      dsimp only
      rw [if_neg (by simp), numP_itoa h1.1 h1.2.1]
  · split at h
    · rename_i hk
      subst hk
      injection h with h hd
      subst h
      have hdr : dr = 0 := by simpa using hd
      subst hdr
      refine ⟨?_, by simp, ?_, ?_, ?_⟩
      · unfold pickP
        have hp : Lib.hasPrefix ([115] ++ Lib.itoa th) [115] = true := by simp [Lib.hasPrefix, List.isPrefixOf]
        have ht : Lib.trimPrefix ([115] ++ Lib.itoa th) [115] = Lib.itoa th := by unfold Lib.trimPrefix; rw [if_pos hp]; rfl
        rw [if_neg (by simp), if_pos hp, ht, numP_itoa h1.1 h1.2.1]
      · simp only [List.mem_append, not_or]; exact ⟨by decide, o1 (.inl (by decide))⟩
      · simp only [List.mem_append, not_or]; exact ⟨by decide, o1 (.inr (by decide))⟩
      · simp only [List.mem_append, not_or]; exact ⟨by decide, o1 (.inr (by decide))⟩
    · injection h with h hd
      subst h
      have := of_decide_eq_true hd
      rw [this]
      exact ⟨by decide, by decide, by decide, by decide, by decide⟩
theorem pks_back : ∀ (l l0 : List Pk), (l.all fun p => (pickS p).2) = true → l0.length + l.length ≤ 20000 → pksGo l0 (l.map fun p => (pickS p).1) = some (l0 ++ l)
  | [], l0, _, _ => by simp [pksGo]
  | p :: l, l0, h, hn => by
    rw [List.all_cons, Bool.and_eq_true] at h
    have hb := pick_back (p := p) (t := (pickS p).1) (by rw [← h.1])
    rw [List.map_cons, pksGo]
    have : pickOk l0.length (pickS p).1 = true := by
      unfold pickOk
      rw [hb.1, h.1]
      simp only [Bool.true_and, beq_self_eq_true, decide_eq_true_eq]
      simp at hn; omega
    rw [if_pos this, hb.1, pks_back l (l0 ++ [p]) h.2 (by simp at hn ⊢; omega)]
    simp
theorem putPs_ok {l : List Pk} (h : (putPs l).2 = 0) : l.length ≤ 20000 ∧ (l.all fun p => (pickS p).2) = true ∧ (putPs l).1 = Lib.join (l.map fun p => (pickS p).1) [32] := by
  unfold putPs at h ⊢
  split at h
  · cases h
  · rename_i h1
    split at h
    · rename_i h2
      rw [if_neg h1, if_pos h2]
      exact ⟨by omega, h2, rfl⟩
    · cases h
theorem putPs_back {l : List Pk} (h : (putPs l).2 = 0) : parsePs (putPs l).1 = (l, 0) ∧ (124 : UInt8) ∉ (putPs l).1 := by
  obtain ⟨h1, h2, h3⟩ := putPs_ok h
  have hw : ∀ w ∈ l.map fun p => (pickS p).1, w ≠ [] ∧ (32 : UInt8) ∉ w ∧ (124 : UInt8) ∉ w := by
    intro w hw
    obtain ⟨p, hp, rfl⟩ := List.mem_map.1 hw
    have := pick_back (p := p) (t := (pickS p).1) (by rw [← List.all_eq_true.1 h2 p hp])
    exact ⟨this.2.1, this.2.2.1, this.2.2.2.1⟩
  rw [h3]
  refine ⟨?_, join_out (by decide) fun w h => (hw w h).2.2⟩
  unfold parsePs
  cases l with
  | nil => rfl
  | cons p r =>
    have hne : (List.map (fun p => (pickS p).1) (p :: r)) ≠ [] := by simp
    rw [if_neg (join_ne hne fun w h => (hw w h).1), split_join (by decide) hne fun w h => first_one (hw w h).2.1, pks_back _ [] h2 (by simpa using h1)]
    rfl
theorem putL_ok {l : Ls} (h : (putL l).2 = 0) : (putPs l.stem).2 = 0 ∧ (putPs l.loop).2 = 0 ∧ 0 ≤ l.thread ∧ l.thread ≤ 999999 ∧ putL l = (Lib.join [(putPs l.stem).1, (putPs l.loop).1, Lib.itoa l.thread] bar, 0) := by
  unfold putL at h ⊢
  split at h
  · rename_i h1; exact absurd h h1
  · rename_i h1
    split at h
    · rename_i h2; exact absurd h h2
    · rename_i h2
      split at h
      · cases h
      · rename_i h3
        rw [if_neg h1, if_neg h2, if_neg h3]
        exact ⟨Decidable.not_not.1 h1, Decidable.not_not.1 h2, by omega, by omega, rfl⟩
theorem putL_back {l : Ls} (h : (putL l).2 = 0) : parseL (putL l).1 = (l, 0) := by
  obtain ⟨h1, h2, h3, h4, h5⟩ := putL_ok h
  obtain ⟨a1, a2⟩ := putPs_back h1
  obtain ⟨b1, b2⟩ := putPs_back h2
  have hs : Lib.split (putL l).1 bar = [(putPs l.stem).1, (putPs l.loop).1, Lib.itoa l.thread] := by
    rw [h5]
    refine split_join (by decide) (by simp) fun w hw => first_bar (by decide) ?_
    simp only [List.mem_cons, List.not_mem_nil, or_false] at hw
    rcases hw with rfl | rfl | rfl
    · exact a2
    · exact b2
    · exact itoa_out h3 (.inr (by decide))
  unfold parseL
  rw [hs]
  dsimp only
  rw [atoi_itoa h3 (by omega)]
  dsimp only
  rw [a1, b1]
  have e : putL l = ((putL l).1, 0) := by rw [← h]
  rw [if_pos ⟨rfl, rfl, e⟩]

/-! ### verdicts -/
theorem nums_in {v : Vd} (h : areNumsS v = true) : (0 ≤ v.seen ∧ v.seen ≤ most) ∧ (0 ≤ v.at' ∧ v.at' ≤ most) ∧ (0 ≤ v.err ∧ v.err ≤ most) ∧ (0 ≤ v.what ∧ v.what ≤ most) ∧ (0 ≤ v.way.thread ∧ v.way.thread ≤ most) ∧ ∀ n ∈ v.counts, 0 ≤ n ∧ n ≤ most := by
  unfold areNumsS at h
  simp only [List.cons_append, List.nil_append, List.all_cons, Bool.and_eq_true, decide_eq_true_eq, List.all_eq_true] at h
  exact ⟨h.1, h.2.1, h.2.2.1, h.2.2.2.1, h.2.2.2.2.1, h.2.2.2.2.2⟩
theorem most_r {n : Int} (h : n ≤ most) : n ≤ 9223372036854775807 := by unfold most at h; omega
theorem lists_nil {v : Vd} (h : plainWay v = true) : v.counts = [] ∧ v.what = 0 ∧ v.way = .zero := by
  unfold plainWay at h
  simp only [Bool.and_eq_true, decide_eq_true_eq] at h
  obtain ⟨⟨h1, h2⟩, h3⟩ := h
  obtain ⟨k, e, a, s, c, w, ⟨st, lo, th⟩⟩ := v
  dsimp only at *
  refine ⟨List.eq_nil_of_length_eq_zero (by omega), h2, ?_⟩
  rw [List.eq_nil_of_length_eq_zero (l := st) (by omega), List.eq_nil_of_length_eq_zero (l := lo) (by omega), h3]
  rfl
theorem sp_words {ws : List Str} (hn : ws ≠ []) (h : ∀ w ∈ ws, (32 : UInt8) ∉ w) : Lib.split (Lib.join ws [32]) [32] = ws := split_join (by decide) hn fun w hw => first_one (h w hw)
theorem putV_back {v : Vd} (h : (putV v).2 = 0) : guessV (putV v).1 = v := by
  unfold putV at h ⊢
  split at h
  · cases h
  rename_i h0
  simp only [Bool.or_eq_true, Bool.not_eq_true', not_or, Bool.not_eq_false] at h0
  obtain ⟨hp, hn⟩ := h0
  obtain ⟨n1, n2, n3, n4, n5, n6⟩ := nums_in hn
  rw [if_neg (by rw [hp, hn]; decide)]
  have sp : ∀ {n : Int}, 0 ≤ n → (32 : UInt8) ∉ Lib.itoa n := fun h => itoa_out h (.inl (by decide))
  split at h
  · rename_i hk
    rw [if_pos hk]
    unfold isPlainS at hp
    rw [if_pos hk] at hp
    simp only [Bool.and_eq_true, decide_eq_true_eq] at hp
    obtain ⟨l1, l2, l3⟩ := lists_nil hp.1
    show guessV (Lib.join [wErr, Lib.itoa v.err, Lib.itoa v.at'] [32]) = v
    unfold guessV
    rw [sp_words (by simp) fun w hw => by
      simp only [List.mem_cons, List.not_mem_nil, or_false] at hw
      rcases hw with rfl | rfl | rfl
      · decide
      · exact sp n3.1
      · exact sp n2.1]
    dsimp only
    rw [if_pos rfl, numS_itoa n3.1 (most_r n3.2), numS_itoa n2.1 (most_r n2.2)]
    obtain ⟨k, e, a, s, c, w, y⟩ := v
    dsimp only at *
    rw [hk, hp.2, l1, l2, l3]
  · rename_i hk1
    rw [if_neg hk1]
    split at h
    · rename_i hk
      rw [if_pos hk]
      unfold isPlainS at hp
      rw [if_neg hk1, if_pos (.inl hk)] at hp
      simp only [Bool.and_eq_true] at hp
      obtain ⟨l1, l2, l3⟩ := lists_nil hp.1
      have hf := hp.2
      unfold plainErr at hf
      simp only [Bool.and_eq_true, decide_eq_true_eq] at hf
      show guessV (Lib.join [wAcc, Lib.itoa v.seen] [32]) = v
      unfold guessV
      rw [sp_words (by simp) fun w hw => by
        simp only [List.mem_cons, List.not_mem_nil, or_false] at hw
        rcases hw with rfl | rfl
        · decide
        · exact sp n1.1]
      dsimp only
      rw [if_pos rfl, numS_itoa n1.1 (most_r n1.2)]
      obtain ⟨k, e, a, s, c, w, y⟩ := v
      dsimp only at *
      rw [hk, hf.1, hf.2, l1, l2, l3]
    · rename_i hk2
      rw [if_neg hk2]
      split at h
      · rename_i hk
        rw [if_pos hk]
        unfold isPlainS at hp
        rw [if_neg hk1, if_pos (.inr hk)] at hp
        simp only [Bool.and_eq_true] at hp
        obtain ⟨l1, l2, l3⟩ := lists_nil hp.1
        have hf := hp.2
        unfold plainErr at hf
        simp only [Bool.and_eq_true, decide_eq_true_eq] at hf
        show guessV (Lib.join [wUnk, Lib.itoa v.seen] [32]) = v
        unfold guessV
        rw [sp_words (by simp) fun w hw => by
          simp only [List.mem_cons, List.not_mem_nil, or_false] at hw
          rcases hw with rfl | rfl
          · decide
          · exact sp n1.1]
        dsimp only
        rw [if_neg (by decide), if_pos rfl, numS_itoa n1.1 (most_r n1.2)]
        obtain ⟨k, e, a, s, c, w, y⟩ := v
        dsimp only at *
        rw [hk, hf.1, hf.2, l1, l2, l3]
      · rename_i hk3
        rw [if_neg hk3]
        split at h
        · rename_i h1; exact absurd h h1
        · rename_i h1
          rw [if_neg h1]
          have h1 : (putL v.way).2 = 0 := Decidable.not_not.1 h1
          have hk : v.kind = 3 ∧ plainErr v = true := by
            unfold isPlainS at hp
            rw [if_neg hk1, if_neg (by omega)] at hp
            split at hp
            · rename_i hk; exact ⟨hk, hp⟩
            · cases hp
          have hf := hk.2
          unfold plainErr at hf
          simp only [Bool.and_eq_true, decide_eq_true_eq] at hf
          show guessV (Lib.join (rejWords v (putL v.way).1) [32]) = v
          have hl1 : ∀ w ∈ [wRej, Lib.itoa v.seen] ++ v.counts.map Lib.itoa, (32 : UInt8) ∉ w ∧ (58 : UInt8) ∉ w := by
            intro w hw
            simp only [List.mem_append, List.mem_cons, List.not_mem_nil, or_false, List.mem_map] at hw
            rcases hw with (rfl | rfl) | ⟨n, hn, rfl⟩
            · exact ⟨by decide, by decide⟩
            · exact ⟨sp n1.1, itoa_out n1.1 (.inr (by decide))⟩
            · exact ⟨sp (n6 n hn).1, itoa_out (n6 n hn).1 (.inr (by decide))⟩
          have hne : [wRej, Lib.itoa v.seen] ++ v.counts.map Lib.itoa ≠ [] := by simp
          have hj : Lib.join (rejWords v (putL v.way).1) [32] = Lib.join ([wRej, Lib.itoa v.seen] ++ v.counts.map Lib.itoa) [32] ++ colon ++ (Lib.itoa v.what ++ bar ++ (putL v.way).1) := by
            unfold rejWords
            rw [join_app _ _ _ hne (by simp), join_two, join_two, join_two, Lib.join_one]
            simp [colon, bar]
          have hhd : Lib.split (Lib.join (rejWords v (putL v.way).1) [32]) [32] = wRej :: Lib.split (Lib.itoa v.seen ++ [32] ++ Lib.join (v.counts.map Lib.itoa ++ [[58], Lib.itoa v.what, [124], (putL v.way).1]) [32]) [32] := by
            have : Lib.join (rejWords v (putL v.way).1) [32] = wRej ++ [32] ++ (Lib.itoa v.seen ++ [32] ++ Lib.join (v.counts.map Lib.itoa ++ [[58], Lib.itoa v.what, [124], (putL v.way).1]) [32]) := by
              show Lib.join (wRej :: Lib.itoa v.seen :: (v.counts.map Lib.itoa ++ [[58], Lib.itoa v.what, [124], (putL v.way).1])) [32] = _
              rw [join_two]
              congr 1
              cases hc : v.counts.map Lib.itoa ++ [[58], Lib.itoa v.what, [124], (putL v.way).1] with
              | nil => simp at hc
              | cons y r => rw [join_two]
            rw [this, split_first (by decide) (first_one (by decide))]
          have hg : guessV (Lib.join (rejWords v (putL v.way).1) [32]) = rejS (Lib.join (rejWords v (putL v.way).1) [32]) := by
            unfold guessV
            rw [hhd]
            split
            · rename_i he; injection he with he _; rw [if_neg (by rw [← he]; decide)]
            · rename_i he; injection he with he _; rw [if_neg (by rw [← he]; decide), if_neg (by rw [← he]; decide)]
            · rfl
          rw [hg, hj]
          unfold rejS
          dsimp only
          have c1 : Lib.cut (Lib.join ([wRej, Lib.itoa v.seen] ++ v.counts.map Lib.itoa) [32] ++ colon ++ (Lib.itoa v.what ++ bar ++ (putL v.way).1)) colon = (Lib.join ([wRej, Lib.itoa v.seen] ++ v.counts.map Lib.itoa) [32], Lib.itoa v.what ++ bar ++ (putL v.way).1, true) :=
            cut_first (first_bar (by decide) (join_out (by decide) fun w hw => (hl1 w hw).2)) _
          have c2 : Lib.cut (Lib.itoa v.what ++ bar ++ (putL v.way).1) bar = (Lib.itoa v.what, (putL v.way).1, true) := cut_first (first_bar (by decide) (itoa_out n4.1 (.inr (by decide)))) _
          rw [c1]
          dsimp only
          rw [c2]
          dsimp only
          rw [sp_words hne fun w hw => (hl1 w hw).1, putL_back h1, numS_itoa n4.1 (most_r n4.2)]
          show Vd.mk 3 0 0 (numS (Lib.itoa v.seen)) ((v.counts.map Lib.itoa).map numS) v.what v.way = v
          rw [numS_itoa n1.1 (most_r n1.2), List.map_map]
          have hm : v.counts.map (numS ∘ Lib.itoa) = v.counts := by
            conv => rhs; rw [← List.map_id v.counts]
            exact List.map_congr_left fun n hn => numS_itoa (n6 n hn).1 (most_r (n6 n hn).2)
          rw [hm]
          obtain ⟨k, e, a, s, c, w, y⟩ := v
          dsimp only at *
          rw [hk.1, hf.1, hf.2]
theorem parseV_put {v : Vd} (h : (putV v).2 = 0) : parseV (putV v).1 = (v, 0) := by
  unfold parseV
  rw [putV_back h, if_pos (by rw [← h])]
theorem parseV_cases (s : Str) : (∃ v, parseV s = (v, 0) ∧ putV v = (s, 0)) ∨ parseV s = (.zero, 2) := by
  unfold parseV
  split
  · rename_i h; exact .inl ⟨_, rfl, h⟩
  · exact .inr rfl
end Go.Proofs.YtblnfodnkacbbaaGreatDoor.Q

set_option maxHeartbeats 4000000
namespace Go.Proofs.YtblnfodnkacbbaaGreatDoor.Q
open Go.RowKit
section
variable [Amb]
/-- A step that leaves all that was there as it was. -/
theorem Sit.below {G : Imm} {w w' : World} {φ : Loc} {Hx : Hp} (hs : Sit G w φ Hx) (hb : Below w.heap.size w w') : Sit G w' φ Hx ∧ Goes G w φ Hx G w' φ Hx := by
  refine hs.step (fun _ => False) (Imm.le.refl _) (Loc.le.refl _) (fun _ _ _ => rfl) hb.os hb.tape hb.output hb.size (fun b h _ => ⟨hb.block b h, fun _ => rfl⟩) (fun _ _ => rfl) ?_ ?_ ?_ ?_ ?_
  · refine hs.inv.of (Imm.le.refl _) (fun b cs T fr h _ _ => hb.block b (Array.getElem?_eq_some_iff.1 h).1) fun b o v hg => ?_
    have h1 := hs.inv.1 b o v hg
    have hlt := h1.lt
    refine h1.go (Imm.le.refl _) (fun h6 => ?_) fun _ => hb.block b hlt
    unfold World.cell? at h6 ⊢
    rw [hb.block b hlt]
    exact h6
  all_goals (intros; contradiction)
/-- A new block whose cells are known for good. -/
def addG (G : Imm) (n : Nat) (us : List Value) : Imm := fun b o => if b = n then us[o]? else G b o
theorem Sit.allocK {G : Imm} {w : World} {φ : Loc} {Hx : Hp} (hs : Sit G w φ Hx) (us : List Value) (T : TypeId) (h1 : ∀ u ∈ us, u.oneCell' = true) :
    Sit (addG G w.heap.size us) (w.alloc (.cells us.toArray T (0, 0))) φ Hx ∧ Goes G w φ Hx (addG G w.heap.size us) (w.alloc (.cells us.toArray T (0, 0))) φ Hx := by
  have old : ∀ b o v, G b o = some v → b < w.heap.size := fun b o v h => (hs.inv.1 b o v h).lt
  have hle : G.le (addG G w.heap.size us) := fun b o v h => by
    have := old b o v h
    unfold addG; rw [if_neg (by omega)]; exact h
  have hblk : ∀ b, b < w.heap.size → (w.alloc (.cells us.toArray T (0, 0))).heap[b]? = w.heap[b]? := fun b hb => Below.heap_alloc _ _ _ hb
  have hnew : (w.alloc (.cells us.toArray T (0, 0))).heap[w.heap.size]? = some (.cells us.toArray T (0, 0)) := by
    show (w.heap.push _)[w.heap.size]? = _
    rw [Array.getElem?_push, if_pos rfl]
  refine hs.step (fun _ => False) hle (Loc.le.refl _) (fun _ _ _ => rfl) rfl rfl rfl (by simp) (fun b h _ => ⟨hblk b h, fun o => by unfold addG; rw [if_neg (by omega)]⟩) (fun _ _ => rfl) ?_ ?_ ?_ ?_ ?_
  · refine hs.inv.of hle (fun b cs T fr h _ _ => hblk b (Array.getElem?_eq_some_iff.1 h).1) fun b o v hg => ?_
    unfold addG at hg
    split at hg
    · rename_i hbn
      subst hbn
      refine .inl ⟨?_, h1 v (List.mem_of_getElem? hg)⟩
      unfold World.cell?
      rw [hnew]
      simpa using hg
    · have h2 := hs.inv.1 b o v hg
      have hlt := h2.lt
      refine h2.go hle (fun h6 => ?_) fun _ => hblk b hlt
      unfold World.cell? at h6 ⊢
      rw [hblk b hlt]
      exact h6
  all_goals (intros; contradiction)
/-- A contract of the library in the logic. -/
theorem lib_c {f : FuncId} {fn : Func} (hf : Tryz.prog.funcs[f]? = some fn) (hname : (fn.name == "runtime.NumGoroutine") = false) (hb : fn.body.isNone = false) {args : List V} {vs : List Value} (hvs : ∀ G φ us, repVs G φ args us → us = vs)
    {v : Value} {r : V} (hr : ∀ G φ, r.rep G φ v) (hc : ∀ G w, Inv G w → Calls Tryz.prog f vs.toArray w fun e w' => e = .returned v ∧ Below w.heap.size w w') : PFun Tryz.prog f args [] r [] := by
  refine ⟨⟨fn, hf, hname, hb⟩, fun G w φ us hs hu => ?_⟩
  rw [hvs G φ us hu]
  refine (hc G w hs.inv).mono ?_
  rintro e w' ⟨rfl, hbl⟩
  obtain ⟨g1, g2⟩ := hs.below hbl
  exact ⟨_, _, _, G, φ, rfl, ⟨rfl, rfl⟩, Nat.le_refl _, g1, g2, hr G φ⟩
theorem below_drewN (w : World) (n : Nat) : Below w.heap.size w (w.drewN n) := by
  have : ∀ n, (w.drewN n).heap = w.heap ∧ (w.drewN n).os = w.os ∧ (w.drewN n).tape = w.tape ∧ (w.drewN n).output = w.output := by
    intro n
    induction n with
    | zero => exact ⟨rfl, rfl, rfl, rfl⟩
    | succ n ih => exact ih
  obtain ⟨h1, h2, h3, h4⟩ := this n
  exact ⟨h2, h3, h4, by rw [h1]; exact Nat.le_refl _, fun k _ => by rw [h1]⟩
theorem reps1 {s : Str} {G : Imm} {φ : Loc} {us : List Value} (h : repVs G φ [sv' s] us) : us = [.string ⟨s.toArray⟩] := by
  obtain ⟨v0, vs, rfl, h0, h1⟩ := h
  have h0 : v0 = .string ⟨s.toArray⟩ := h0
  have h1 : vs = [] := h1
  rw [h0, h1]
theorem reps2 {s t : Str} {G : Imm} {φ : Loc} {us : List Value} (h : repVs G φ [sv' s, sv' t] us) : us = [.string ⟨s.toArray⟩, .string ⟨t.toArray⟩] := by
  obtain ⟨v0, vs, rfl, h0, h1⟩ := h
  have h0 : v0 = .string ⟨s.toArray⟩ := h0
  rw [h0, reps1 h1]
theorem below_grow (w : World) (k : Nat) (os : Array Obj) : Below w.heap.size w (Sort.grow (w.drewN k) os) := by
  have h := below_drewN w k
  refine h.trans ⟨rfl, rfl, rfl, ?_, fun b hb => ?_⟩
  · rw [Sort.size_grow]; exact Nat.le_add_right _ _
  · exact Sort.heap_grow_old (w.drewN k) os (Nat.lt_of_lt_of_le hb h.size)
/-- Variables of the library that never change: the table of powers of ten; some that hold whatever they hold. -/
class Vars : Prop where
  pow : ∃ b, Tryz.prog.globalNamed "internal/strconv.uint64pow10" = some b ∧ (b, Lib.pow10Tab.map (Value.int .u64)) ∈ Amb.tabs
  max : ∃ m, (Tryz.lays143_ren.g 1, [Value.int .i64 m]) ∈ Amb.tabs
  e1 : ∃ ev, (Tryz.lays172_ren.g 15, [ev]) ∈ Amb.tabs ∧ (ev = .nilIface ∨ ∃ te pe, ev = .iface te pe)
  e2 : ∃ ev, (Tryz.lays172_ren.g 16, [ev]) ∈ Amb.tabs ∧ (ev = .nilIface ∨ ∃ te pe, ev = .iface te pe)
theorem Vars.of {A A' : Amb} (h : @Amb.tabs A' = @Amb.tabs A) (v : @Vars A) : @Vars A' := @Vars.mk A' (by rw [h]; exact v.pow) (by rw [h]; exact v.max) (by rw [h]; exact v.e1) (by rw [h]; exact v.e2)
theorem tab_cell {G : Imm} {w : World} (hi : Inv G w) {b : Nat} {v : Value} (h : (b, [v]) ∈ Amb.tabs) : w.cell? ⟨b, 0, none⟩ = some v := by
  obtain ⟨_, ⟨T, fr, h2⟩, _⟩ := hi.2 _ h
  unfold World.cell?
  dsimp only at h2 ⊢
  rw [h2]; rfl
variable [Vars]
theorem max_cell {G : Imm} {w : World} (hi : Inv G w) : ∃ m, w.cell? ⟨Tryz.lays143_ren.g 1, 0, none⟩ = some (.int .i64 m) := by
  obtain ⟨m, h⟩ := Vars.max
  exact ⟨m, tab_cell hi h⟩
theorem powV_is {G : Imm} {w : World} (h : Inv G w) : Lib.TabIs Tryz.prog w "internal/strconv.uint64pow10" .u64 Lib.pow10Tab := by
  obtain ⟨b, h1, h2⟩ := Vars.pow
  obtain ⟨_, ⟨T, fr, h3⟩, _⟩ := h.2 _ h2
  unfold Lib.TabIs World.var?
  rw [h1]
  show (match w.heap[b]? with
    | some (.cells cs _ _) => some cs
    | _ => none) = _
  rw [h3]
theorem itoa_c (n : Int) (hn : R64 n) : PFun Tryz.prog 42 [iv n] [] (sv' (Lib.itoa n)) [] :=
  lib_c Tryz.func42 (by kernel_rfl) (by kernel_rfl) (vs := [.int .i64 n]) (fun G φ us hu => by
    obtain ⟨v0, vs, rfl, h0, h1⟩ := hu
    have h0 : v0 = .int .i64 n := h0
    have h1 : vs = [] := h1
    rw [h0, h1]) (fun _ _ => rfl) fun G w hi => (Any.strconv_Itoa Tryz.lays171 n hn.1 hn.2 w (powV_is hi)).mono fun e w' ⟨h1, k, os, h2⟩ => ⟨h1, h2 ▸ below_grow w k os⟩
theorem index_c (s t : Str) (hs : s.length < 4294967281) : PFun Tryz.prog 84 [sv' s, sv' t] [] (iv (Lib.index s t)) [] :=
  lib_c Tryz.func84 (by kernel_rfl) (by kernel_rfl) (fun G φ us hu => reps2 hu) (fun _ _ => rfl) fun G w hi => by
    obtain ⟨m, hm⟩ := max_cell hi
    exact (Any.strings_Index Tryz.lays143 ⟨s.toArray⟩ ⟨t.toArray⟩ m w (by simpa [ByteArray.size] using hs) hm).mono fun e w' ⟨h1, h2⟩ => ⟨h1, h2 ▸ Below.refl _ _⟩
theorem cut_c (s t : Str) (hs : s.length < 4294967281) : PFun Tryz.prog 49 [sv' s, sv' t] [] (.tup [sv' (Lib.cut s t).1, sv' (Lib.cut s t).2.1, .d (.bool (Lib.cut s t).2.2)]) [] :=
  lib_c Tryz.func49 (by kernel_rfl) (by kernel_rfl) (fun G φ us hu => reps2 hu) (fun _ _ => ⟨_, rfl, _, _, rfl, rfl, _, _, rfl, rfl, _, _, rfl, rfl, rfl⟩) fun G w hi => by
    obtain ⟨m, hm⟩ := max_cell hi
    exact (Any.strings_Cut Tryz.lays145 ⟨s.toArray⟩ ⟨t.toArray⟩ m w (by simpa [ByteArray.size] using hs) hm).mono fun e w' ⟨h1, k, h2⟩ => ⟨h1, h2 ▸ below_drewN w k⟩
theorem cutPrefix_c (s t : Str) : PFun Tryz.prog 188 [sv' s, sv' t] [] (.tup [sv' (Lib.trimPrefix s t), .d (.bool (Lib.hasPrefix s t))]) [] :=
  lib_c Tryz.func188 (by kernel_rfl) (by kernel_rfl) (fun G φ us hu => reps2 hu) (fun _ _ => ⟨_, rfl, _, _, rfl, rfl, _, _, rfl, rfl, rfl⟩) fun G w hi =>
    (Any.strings_CutPrefix Tryz.lays103 ⟨s.toArray⟩ ⟨t.toArray⟩ w).mono fun e w' ⟨h1, h2⟩ => ⟨h1, h2 ▸ Below.refl _ _⟩
/-- Strings in a new block. -/
theorem strs_rep {G : Imm} {b : Nat} : ∀ (ls : List Str) (o : Nat), (∀ (j : Nat) s, ls[j]? = some s → G b (o + j) = some (.string ⟨s.toArray⟩)) → repRows G b o 1 (ls.map scell)
  | [], _, _ => trivial
  | s :: ls, o, h => ⟨rfl, ⟨⟨_, h 0 s rfl, rfl⟩, trivial⟩, strs_rep ls (o + 1) fun j t hj => by rw [Nat.add_assoc, Nat.add_comm 1]; exact h (j + 1) t hj⟩
theorem split_c (s t : Str) (hs : s.length < 4294967281) (ht : t ≠ []) : PFun Tryz.prog 26 [sv' s, sv' t] [] (.d (.sl ((Lib.split s t).map scell))) [] := by
  refine ⟨⟨_, Tryz.func26, by kernel_rfl, by kernel_rfl⟩, fun G w φ us hs' hu => ?_⟩
  rw [reps2 hu]
  obtain ⟨m, hm⟩ := max_cell hs'.inv
  have ht1 : 1 ≤ (⟨t.toArray⟩ : ByteArray).size := by
    show 0 < t.toArray.size
    have := List.length_pos_iff.2 ht
    simpa using this
  refine (Any.strings_Split Tryz.lays146 (by kernel_rfl) ⟨s.toArray⟩ ⟨t.toArray⟩ m w (by simpa [ByteArray.size] using hs) hm ht1).mono ?_
  rintro e w' ⟨rfl, rfl⟩
  have hdata : ((Lib.splitB ⟨t.toArray⟩ 0 (Lib.countB ⟨s.toArray⟩ ⟨t.toArray⟩) ⟨s.toArray⟩).map (·.data.toList)) = Lib.split s t := Lib.splitB_data _ _ _ _
  have hlen := Lib.splitB_all ⟨t.toArray⟩ ht1 0 _ ⟨s.toArray⟩ rfl
  have hcell : (Lib.splitB ⟨t.toArray⟩ 0 (Lib.countB ⟨s.toArray⟩ ⟨t.toArray⟩) ⟨s.toArray⟩).map Value.string = (Lib.split s t).map fun x => Value.string ⟨x.toArray⟩ := by
    rw [← hdata, List.map_map]
    rfl
  rw [hcell, ← hlen]
  have hl2 : (Lib.splitB ⟨t.toArray⟩ 0 (Lib.countB ⟨s.toArray⟩ ⟨t.toArray⟩) ⟨s.toArray⟩).length = (Lib.split s t).length := by rw [← hdata, List.length_map]
  rw [hl2]
  obtain ⟨g1, g2⟩ := hs'.allocK ((Lib.split s t).map fun x => Value.string ⟨x.toArray⟩) (Tryz.lays146_ren.t 9) (fun u hu => by
    obtain ⟨x, _, rfl⟩ := List.mem_map.1 hu; rfl)
  refine ⟨_, _, _, _, φ, rfl, ⟨rfl, rfl⟩, Nat.le_refl _, g1, g2, ?_⟩
  refine ⟨_, (Lib.split s t).length, by rw [List.length_map], by rw [List.length_map]; exact Nat.le_refl _, fun _ => ⟨w.heap.size, 0, 1, rfl, strs_rep _ 0 fun j x hj => ?_⟩⟩
  unfold addG
  rw [if_pos rfl, Nat.zero_add, List.getElem?_map, hj]; rfl
/-! ### what a slice of texts or numbers says of memory -/
theorem strs_cell {G : Imm} {w : World} (hi : Inv G w) {b : Nat} : ∀ (ls : List Str) (o e : Nat), repRows G b o e (ls.map scell) → ∀ (j : Nat) s, ls[j]? = some s → w.cell? ⟨b, o + j, none⟩ = some (.string ⟨s.toArray⟩)
  | [], _, _, _, j, s, h => by simp at h
  | x :: ls, o, e, ⟨h1, ⟨⟨u, h2, h3⟩, _⟩, h4⟩, j, s, h => by
    have he : e = 1 := h1.symm
    subst he
    have h3 : u = .string ⟨x.toArray⟩ := h3
    subst h3
    cases j with
    | zero =>
      simp at h; subst h
      exact hi _ _ _ h2 rfl
    | succ j =>
      have := strs_cell hi ls (o + 1) 1 h4 j s (by simpa using h)
      rw [Nat.add_assoc, Nat.add_comm 1] at this
      exact this
theorem ints_cell {G : Imm} {w : World} (hi : Inv G w) {b : Nat} : ∀ (ls : List Int) (o e : Nat), repRows G b o e (ls.map fun n => [D.int .i64 n]) → ∀ (j : Nat) n, ls[j]? = some n → w.cell? ⟨b, o + j, none⟩ = some (.int .i64 n)
  | [], _, _, _, j, s, h => by simp at h
  | x :: ls, o, e, ⟨h1, ⟨⟨u, h2, h3⟩, _⟩, h4⟩, j, s, h => by
    have he : e = 1 := h1.symm
    subst he
    have h3 : u = .int .i64 x := h3
    subst h3
    cases j with
    | zero =>
      simp at h; subst h
      exact hi _ _ _ h2 rfl
    | succ j =>
      have := ints_cell hi ls (o + 1) 1 h4 j s (by simpa using h)
      rw [Nat.add_assoc, Nat.add_comm 1] at this
      exact this
theorem join_data (ls : List Str) : (ls.map fun x => (⟨x.toArray⟩ : ByteArray)).map (·.data.toList) = ls := by
  rw [List.map_map]
  conv => rhs; rw [← List.map_id ls]
  rfl
theorem join_c (ls : List Str) (t : Str) (hn : ls.length ≤ 140737488355328) (hl : (Lib.join ls t).length ≤ 140737488355328) : PFun Tryz.prog 43 [.d (.sl (ls.map scell)), sv' t] [] (sv' (Lib.join ls t)) [] := by
  refine ⟨⟨_, Tryz.func43, by kernel_rfl, by kernel_rfl⟩, fun G w φ us hs hu => ?_⟩
  obtain ⟨v0, vs, rfl, h0, hu⟩ := hu
  rw [reps1 hu]
  obtain ⟨A, c, rfl, hc, hA⟩ := h0
  rw [List.length_map] at hc ⊢
  have fin : ∀ {e : Ending} {w' : World}, e = .returned (.string ⟨(Lib.join ls t).toArray⟩) → Below w.heap.size w w' → ∃ v r h' G' φ', e = .returned v ∧ (r = sv' (Lib.join ls t) ∧ h' = ([] : List Ob)) ∧ ([] : List Ob).length ≤ h'.length ∧ Sit G' w' φ' (hp h') ∧ Goes G w φ (hp []) G' w' φ' (hp h') ∧ r.rep G' φ' v := by
    intro e w' he hb
    obtain ⟨g1, g2⟩ := hs.below hb
    exact ⟨_, _, _, G, φ, he, ⟨rfl, rfl⟩, Nat.le_refl _, g1, g2, rfl⟩
  cases ls with
  | nil =>
    refine (Any.strings_Join_none Tryz.lays156 Tryz.laysB A c ⟨t.toArray⟩ w).mono ?_
    rintro e w' ⟨rfl, rfl⟩
    exact fin rfl (Below.refl _ _)
  | cons x r =>
    obtain ⟨b, o, e, rfl, hr⟩ := hA (by simp)
    have hcell := strs_cell hs.inv (x :: r) o e hr
    have hbk : b < w.heap.size := World.block_lt_of_cell? _ _ (hcell 0 x rfl)
    have := Any.strings_Join Tryz.lays156 Tryz.laysB b o c ((x :: r).map fun x => (⟨x.toArray⟩ : ByteArray)) ⟨t.toArray⟩ w (fun j y hj => by
      rw [List.getElem?_map] at hj
      cases hx : (x :: r)[j]? with
      | none => rw [hx] at hj; cases hj
      | some z => rw [hx] at hj; injection hj with hj; subst hj; exact hcell j z hx) hbk (by rw [List.length_map]; exact hn) (by rw [List.length_map]; exact hc) (by rw [join_data]; exact hl)
    rw [List.length_map, join_data] at this
    refine this.mono ?_
    rintro e w' ⟨rfl, hb⟩
    exact fin rfl hb
theorem getD_at {α : Type} {l : List α} {j : Nat} {d : α} (h : j < l.length) : l[j]? = some (l.getD j d) := by
  simp [List.getD, List.getElem?_eq_getElem h]
theorem max_c (l : List Int) (h : l ≠ []) (hn : l.length ≤ 9223372036854775807) : PFun Tryz.prog 41 [.d (.sl (l.map fun n => [D.int .i64 n]))] [] (iv (Lib.maxOf l)) [] := by
  refine ⟨⟨_, Tryz.func41, by kernel_rfl, by kernel_rfl⟩, fun G w φ us hs hu => ?_⟩
  obtain ⟨v0, vs, rfl, h0, hu⟩ := hu
  have hu : vs = [] := hu
  subst hu
  obtain ⟨A, c, rfl, hc, hA⟩ := h0
  rw [List.length_map] at hc ⊢
  obtain ⟨b, o, e, rfl, hr⟩ := hA (by simpa using h)
  have hcell := ints_cell hs.inv l o e hr
  refine (Any.slices_Max_int Tryz.lays113 b o l.length c l w (List.length_pos_iff.2 h) (Nat.le_refl _) hn fun j hj => hcell j _ (getD_at hj)).mono ?_
  rintro e w' ⟨he, hw⟩
  rw [List.take_length] at he
  obtain ⟨g1, g2⟩ := hs.below (w' := w') (by first | exact hw ▸ Below.refl _ _ | (obtain ⟨k, hw⟩ := hw; exact hw ▸ below_drewN w k))
  exact ⟨_, _, _, G, φ, he, ⟨rfl, rfl⟩, Nat.le_refl _, g1, g2, rfl⟩
theorem min_c (l : List Int) (h : l ≠ []) (hn : l.length ≤ 9223372036854775807) : PFun Tryz.prog 40 [.d (.sl (l.map fun n => [D.int .i64 n]))] [] (iv (Lib.minOf l)) [] := by
  refine ⟨⟨_, Tryz.func40, by kernel_rfl, by kernel_rfl⟩, fun G w φ us hs hu => ?_⟩
  obtain ⟨v0, vs, rfl, h0, hu⟩ := hu
  have hu : vs = [] := hu
  subst hu
  obtain ⟨A, c, rfl, hc, hA⟩ := h0
  rw [List.length_map] at hc ⊢
  obtain ⟨b, o, e, rfl, hr⟩ := hA (by simpa using h)
  have hcell := ints_cell hs.inv l o e hr
  refine (Any.slices_Min_int Tryz.lays114 b o l.length c l w (List.length_pos_iff.2 h) (Nat.le_refl _) hn fun j hj => hcell j _ (getD_at hj)).mono ?_
  rintro e w' ⟨he, hw⟩
  rw [List.take_length] at he
  obtain ⟨g1, g2⟩ := hs.below (w' := w') (by first | exact hw ▸ Below.refl _ _ | (obtain ⟨k, hw⟩ := hw; exact hw ▸ below_drewN w k))
  exact ⟨_, _, _, G, φ, he, ⟨rfl, rfl⟩, Nat.le_refl _, g1, g2, rfl⟩
/-- A numeral is read: the number, or an error that is not nil. -/
theorem atoi_c (s : Str) (hs : s.length ≤ 281474976710656) : PCalls Tryz.prog 48 [sv' s] [] fun r h' => h' = [] ∧ ((∃ n, Lib.atoiAll s = .ok n ∧ r = .tup [iv n, .d (.raw .nilIface)]) ∨ ((∀ n, Lib.atoiAll s ≠ .ok n) ∧ ∃ n t u, r = .tup [iv n, .d (.raw (.iface t u))])) := by
  refine ⟨⟨_, Tryz.func48, by kernel_rfl, by kernel_rfl⟩, fun G w φ us hs' hu => ?_⟩
  rw [reps1 hu]
  have hz : (⟨s.toArray⟩ : ByteArray).size ≤ 281474976710656 := by simpa [ByteArray.size] using hs
  rcases hv : Lib.atoiAll s with n | _ | _
  · refine (Any.strconv_Atoi_ok Tryz.lays172 ⟨s.toArray⟩ (by omega) n hv w).mono ?_
    rintro e w' ⟨rfl, hw⟩
    have hb : Below w.heap.size w w' := by
      rcases hw with rfl | ⟨t, rfl⟩
      · exact Below.refl _ _
      · exact Lib.bytesWorld_below _ _ _
    obtain ⟨g1, g2⟩ := hs'.below hb
    exact ⟨_, _, _, G, φ, rfl, ⟨rfl, .inl ⟨n, rfl, rfl⟩⟩, Nat.le_refl _, g1, g2, ⟨_, rfl, _, _, rfl, rfl, _, _, rfl, ⟨rfl, rfl⟩, rfl⟩⟩
  · obtain ⟨ev, h1, h2⟩ := Vars.e1
    refine (Any.strconv_Atoi_syntax Tryz.lays172 ⟨s.toArray⟩ hz hv ev w (tab_cell hs'.inv h1) h2).mono ?_
    rintro e w' ⟨N, rfl, _, _, hb⟩
    obtain ⟨g1, g2⟩ := hs'.below hb
    exact ⟨_, _, _, G, φ, rfl, ⟨rfl, .inr ⟨(fun n hn => by cases hn), _, _, _, rfl⟩⟩, Nat.le_refl _, g1, g2, ⟨_, rfl, _, _, rfl, rfl, _, _, rfl, ⟨rfl, rfl⟩, rfl⟩⟩
  · obtain ⟨ev, h1, h2⟩ := Vars.e2
    refine (Any.strconv_Atoi_range Tryz.lays172 ⟨s.toArray⟩ hz hv ev w (tab_cell hs'.inv h1) h2).mono ?_
    rintro e w' ⟨N, rfl, _, _, hb⟩
    obtain ⟨g1, g2⟩ := hs'.below hb
    exact ⟨_, _, _, G, φ, rfl, ⟨rfl, .inr ⟨(fun n hn => by cases hn), _, _, _, rfl⟩⟩, Nat.le_refl _, g1, g2, ⟨_, rfl, _, _, rfl, rfl, _, _, rfl, ⟨rfl, rfl⟩, rfl⟩⟩
end
end Go.Proofs.YtblnfodnkacbbaaGreatDoor.Q

namespace Go.Proofs.YtblnfodnkacbbaaGreatDoor.Q
open Go.RowKit
/-! ### sizes -/
theorem dec_short : ∀ (k n : Nat), n < 10 ^ (k + 1) → (Lib.decDigits n).length ≤ k + 1
  | 0, n, h => by rw [dec_unfold, if_pos (by simpa using h)]; simp
  | k + 1, n, h => by
    rw [dec_unfold]
    split
    · simp
    · rw [List.length_append, List.length_singleton]
      have := dec_short k (n / 10) (by rw [Nat.pow_succ] at h; omega)
      omega
theorem itoa_short {n : Int} (h : R64 n) : (Lib.itoa n).length ≤ 20 := by
  unfold R64 at h
  unfold Lib.itoa
  split
  · have := dec_short 18 n.natAbs (by omega)
    simp; omega
  · have := dec_short 18 n.toNat (by omega)
    omega
def Pk.ok (p : Pk) : Prop := R64 p.kind ∧ R64 p.thread ∧ R64 p.draw
theorem pickS_short {p : Pk} (h : p.ok) : (pickS p).1.length ≤ 41 := by
  have h1 := itoa_short h.2.1
  have h2 := itoa_short h.2.2
  unfold pickS
  repeat' split
  all_goals simp <;> omega
theorem joinTail_short (sep : Str) (B : Nat) : ∀ (r : List Str), (∀ w ∈ r, w.length ≤ B) → (Lib.joinTail sep r).length ≤ r.length * (sep.length + B)
  | [], _ => by simp [Lib.joinTail]
  | w :: r, h => by
    have ih := joinTail_short sep B r fun v hv => h v (List.mem_cons_of_mem _ hv)
    have hw := h w List.mem_cons_self
    have e : Lib.joinTail sep (w :: r) = (sep ++ w) ++ Lib.joinTail sep r := by simp [Lib.joinTail]
    rw [e, List.length_append, List.length_append, List.length_cons, Nat.add_mul]
    omega
theorem join_short (sep : Str) (B : Nat) (r : List Str) (h : ∀ w ∈ r, w.length ≤ B) : (Lib.join r sep).length ≤ r.length * (sep.length + B) := by
  cases r with
  | nil => rw [Lib.join_nil]; simp
  | cons w r =>
    rw [Lib.join_cons, List.length_append, List.length_cons, Nat.add_mul]
    have := joinTail_short sep B r fun v hv => h v (List.mem_cons_of_mem _ hv)
    have := h w List.mem_cons_self
    omega
theorem putPs_short {l : List Pk} (h : ∀ p ∈ l, p.ok) : (putPs l).1.length ≤ 20000 * 42 := by
  unfold putPs
  split
  · simp
  · rename_i hn
    split
    · have := join_short [32] 41 (l.map fun p => (pickS p).1) (fun w hw => by
        obtain ⟨p, hp, rfl⟩ := List.mem_map.1 hw
        exact pickS_short (h p hp))
      rw [List.length_map] at this
      simp at this ⊢
      omega
    · simp
def Ls.ok (l : Ls) : Prop := (∀ p ∈ l.stem, p.ok) ∧ (∀ p ∈ l.loop, p.ok) ∧ R64 l.thread
theorem putL_short {l : Ls} (h : l.ok) : (putL l).1.length ≤ 2000000 := by
  have h1 := putPs_short h.1
  have h2 := putPs_short h.2.1
  have h3 := itoa_short h.2.2
  unfold putL
  repeat' split
  all_goals first | (simp; done) | skip
  have := join_short bar 840000 [(putPs l.stem).1, (putPs l.loop).1, Lib.itoa l.thread] (fun w hw => by
    simp only [List.mem_cons, List.not_mem_nil, or_false] at hw
    rcases hw with rfl | rfl | rfl <;> omega)
  rw [join_two, join_two, Lib.join_one]
  simp [bar]
  omega
def Vd.ok (v : Vd) : Prop := R64 v.kind ∧ R64 v.err ∧ R64 v.at' ∧ R64 v.seen ∧ (∀ n ∈ v.counts, R64 n) ∧ R64 v.what ∧ v.way.ok ∧ v.counts.length ≤ 1000000 ∧ v.way.stem.length ≤ 1073741824 ∧ v.way.loop.length ≤ 1073741824
/-! ### walks -/
section
variable [Amb]
theorem isPlain_c (v : Vd) (hv : v.ok) : PFun Tryz.prog 18 [v.v] [] (.d (.bool (isPlainS v))) [] := by
  have h1 := hv.2.2.2.2.2.2.2.1
  have h2 := hv.2.2.2.2.2.2.2.2.1
  have h3 := hv.2.2.2.2.2.2.2.2.2
  have e : (IntKind.i64.wrap (IntKind.i64.wrap (((v.counts.map icell).length : Int) + ((v.way.stem.map Pk.e).length : Int)) + ((v.way.loop.map Pk.e).length : Int)) == (0 : Int)) = decide (v.counts.length + v.way.stem.length + v.way.loop.length = 0) := by
    rw [wrap_in (x := ((v.counts.map icell).length : Int) + ((v.way.stem.map Pk.e).length : Int)) (by unfold R64; simp; omega), wrap_in (by unfold R64; simp; omega), Bool.eq_iff_iff]
    simp only [beq_iff_eq, decide_eq_true_eq, List.length_map]
    omega
  refine fn_sem pok 58 0 Tryz.func18 (by kernel_rfl) rfl rfl rfl rfl ?_
  refine SWp.go pok (by kernel_rfl) ?_
  repeat' (refine brP_split (fun h => ?_) (fun h => ?_))
  all_goals
    refine fin1 (dbool ?_)
    simp only [e, beq_iff_eq, beq_eq_false_iff_ne, decide_eq_true_eq, decide_eq_false_iff_not] at *
    simp only [isPlainS, plainWay, plainErr]
    simp [*]
    try (intro a b c; simp [a, b, c] at *)
theorem minOf_go : ∀ (l : List Int) (a : Int), (0 ≤ l.foldl min a) ↔ 0 ≤ a ∧ ∀ n ∈ l, 0 ≤ n
  | [], a => by simp
  | b :: l, a => by
    rw [List.foldl_cons, minOf_go l, List.forall_mem_cons, ← and_assoc, Int.le_min]
theorem maxOf_go (m : Int) : ∀ (l : List Int) (a : Int), (l.foldl max a ≤ m) ↔ a ≤ m ∧ ∀ n ∈ l, n ≤ m
  | [], a => by simp
  | b :: l, a => by
    rw [List.foldl_cons, maxOf_go m l, List.forall_mem_cons, ← and_assoc, Int.max_le]
theorem nums_eq (v : Vd) : areNumsS v = (decide (Lib.minOf ([v.seen, v.at', v.err, v.what, v.way.thread] ++ v.counts) ≥ 0) && decide (Lib.maxOf ([v.seen, v.at', v.err, v.what, v.way.thread] ++ v.counts) ≤ 1099511627776)) := by
  unfold areNumsS
  rw [Bool.eq_iff_iff, Bool.and_eq_true, decide_eq_true_eq, decide_eq_true_eq, List.all_eq_true]
  have e1 : ∀ a (l : List Int), Lib.minOf (a :: l) = (a :: l).foldl min a := fun _ _ => rfl
  have e2 : ∀ a (l : List Int), Lib.maxOf (a :: l) = (a :: l).foldl max a := fun _ _ => rfl
  simp only [List.cons_append, List.nil_append, e1, e2, ge_iff_le, minOf_go, maxOf_go, List.forall_mem_cons, Bool.and_eq_true, decide_eq_true_eq]
  unfold most
  constructor
  · rintro ⟨h1, h2, h3, h4, h5, h6⟩
    exact ⟨⟨h1.1, h1.1, h2.1, h3.1, h4.1, h5.1, fun n hn => (h6 n hn).1⟩, ⟨h1.2, h1.2, h2.2, h3.2, h4.2, h5.2, fun n hn => (h6 n hn).2⟩⟩
  · rintro ⟨⟨h1, _, h2, h3, h4, h5, h6⟩, ⟨k1, _, k2, k3, k4, k5, k6⟩⟩
    exact ⟨⟨h1, k1⟩, ⟨h2, k2⟩, ⟨h3, k3⟩, ⟨h4, k4⟩, ⟨h5, k5⟩, fun n hn => ⟨h6 n hn, k6 n hn⟩⟩
variable [Vars]
theorem areNumbers_c (v : Vd) (hv : v.ok) : PFun Tryz.prog 19 [v.v] [] (.d (.bool (areNumsS v))) [] := by
  have h1 := hv.2.2.2.2.2.2.2.1
  rw [nums_eq]
  refine fn_sem pok 27 0 Tryz.func19 (by kernel_rfl) rfl rfl rfl rfl ?_
  refine SWp.go pok (by kernel_rfl) ?_
  refine ⟨⟨fun r hr => ?_, fun r hr => ?_, ?_⟩, ?_⟩
  · simp [List.replicate, List.set] at hr
    rcases hr with rfl | rfl | rfl | rfl | rfl <;> rfl
  · obtain ⟨n, _, rfl⟩ := List.mem_map.1 hr; rfl
  · simp; omega
  refine PFun.call (min_c ([v.seen, v.at', v.err, v.what, v.way.thread] ++ v.counts) (by simp) (by simp; omega)) ?_
  refine brP_split (fun h => ?_) (fun h => ?_)
  · refine PFun.call (max_c ([v.seen, v.at', v.err, v.what, v.way.thread] ++ v.counts) (by simp) (by simp; omega)) ?_
    refine brP_split (fun h2 => ?_) (fun h2 => ?_)
    all_goals
      refine fin1 (dbool ?_)
      rw [h, h2]; rfl
  · refine fin1 (dbool ?_)
    rw [h]; rfl
/-! ### words -/
/-- A thing that is told: a number, or a text. -/
inductive It where
  | n (k : Int)
  | s (t : Str)
def It.e : It → List D
  | .n k => [.raw (.iface 3 (.int .i64 k))]
  | .s t => [.raw (.iface 9 (.string ⟨t.toArray⟩))]
def It.t : It → Str
  | .n k => Lib.itoa k
  | .s t => t
def It.ok : It → Prop
  | .n k => R64 k
  | .s t => t.length ≤ 4000000
theorem It.short {x : It} (h : x.ok) : x.t.length ≤ 4000000 := by
  cases x with
  | n k => have := itoa_short h; show (Lib.itoa k).length ≤ 4000000; omega
  | s t => exact h
def partT (l : List Str) (k : Nat) : List (List D) := (l.take k).map scell ++ List.replicate (l.length - k) (scell [])
theorem partT_set (l : List Str) (k : Nat) (h : k < l.length) : (partT l k).set k (scell l[k]) = partT l (k + 1) := by
  unfold partT
  rw [List.set_append_right _ _ (by simp; omega), take_snoc l k h, List.map_append]
  have e1 : k - ((l.take k).map scell).length = 0 := by simp; omega
  rw [e1, show l.length - k = (l.length - (k + 1)) + 1 by omega, List.replicate_succ, List.set_cons_zero, List.append_assoc]
  rfl
theorem partT_at (l : List Str) (k : Nat) (h : k < l.length) : (partT l k)[k]? = some (scell []) := by
  unfold partT
  rw [List.getElem?_append_right (by simp; omega), List.getElem?_replicate, if_pos (by simp; omega)]
theorem partT_all (l : List Str) : partT l l.length = l.map scell := by simp [partT]
theorem words_c (l : List It) (hl : ∀ x ∈ l, x.ok) (hn : l.length ≤ 2000000) : PFun Tryz.prog 20 [.d (.sl (l.map It.e))] [] (sv' (Lib.join (l.map It.t) [32])) [] := by
  have hj := join_short [32] 4000000 (l.map It.t) (fun w hw => by
    obtain ⟨x, hx, rfl⟩ := List.mem_map.1 hw
    exact It.short (hl x hx))
  simp only [List.length_map, List.length_singleton] at hj
  refine fn_sem pok 37 0 Tryz.func20 (by kernel_rfl) rfl rfl rfl rfl ?_
  refine SWp.go pok (by kernel_rfl) ?_
  refine ⟨⟨by simp, by simp, by simp; omega⟩, rfl, ?_⟩
  refine SWp.loop (fun p : Nat × List (List D) => p.1 ≤ l.length ∧ p.2 = partT (l.map It.t) p.1)
    (fun p => ([(3, .arr 0 0 (l.map It.e).length), (11, .d (.sl (l.map It.e))), (12, iv (l.map It.e).length), (13, iv p.1)], [.parr 1 p.2]))
    (fun p => l.length - p.1) (0, List.replicate (l.map It.e).length (scell [])) ⟨Nat.zero_le _, by simp [partT]⟩ (Le.same ⟨rfl, rfl, rfl, rfl, trivial⟩) (fun p hp => ?_)
  obtain ⟨k, rows⟩ := p
  obtain ⟨hk, hs⟩ := hp
  simp only at hk hs
  subst hs
  refine SWp.go pok (by kernel_rfl) ?_
  refine brP_split (fun h => ?_) (fun h => ?_)
  · have hlt : k < l.length := by simpa using h
    have hlt' : k < (l.map It.t).length := by simpa using hlt
    have hok := hl _ (List.getElem_mem hlt)
    have hset : (partT (l.map It.t) k).set (0 + k) (scell (It.t l[k])) = partT (l.map It.t) (k + 1) := by
      have := partT_set (l.map It.t) k hlt'
      rw [List.getElem_map] at this
      rw [Nat.zero_add]; exact this
    have hx := get_at hlt
    have fin : ∀ {k' : Nat}, k' = k → l.length - (k' + 1) < l.length - k' := fun e => by omega
    cases hI : l[k] with
    | n z =>
      rw [hI] at hx hok hset
      refine PIdx.map hx ?_
      refine PFun.call (itoa_c z hok) ?_
      refine ⟨by simp; omega, ?_⟩
      refine ⟨scell [], ?_, ?_⟩
      · show (partT (l.map It.t) k)[0 + k]? = _
        rw [Nat.zero_add]; exact partT_at _ k hlt'
      · exact ⟨(k + 1, (partT (l.map It.t) k).set (0 + k) (scell (Lib.itoa z))), ⟨hlt, hset⟩, fin rfl, .inr ⟨[0], ⟨rfl, rfl⟩, rfl, rfl, rfl, rfl, sint (wrap_nat k (by omega)), trivial⟩⟩
    | s t =>
      rw [hI] at hx hok hset
      refine PIdx.map hx ?_
      refine ⟨by simp; omega, ?_⟩
      refine ⟨scell [], ?_, ?_⟩
      · show (partT (l.map It.t) k)[0 + k]? = _
        rw [Nat.zero_add]; exact partT_at _ k hlt'
      · exact ⟨(k + 1, (partT (l.map It.t) k).set (0 + k) (scell t)), ⟨hlt, hset⟩, fin rfl, .inr ⟨[0], ⟨rfl, rfl⟩, rfl, rfl, rfl, rfl, sint (wrap_nat k (by omega)), trivial⟩⟩
  · have hk' : k = (l.map It.t).length := by simp at h ⊢; omega
    subst hk'
    rw [partT_all]
    refine PCalls.freeze (e := 1) (rows := (l.map It.t).map scell) 0 0 (congrArg (fun n => some (V.arr 0 0 n)) (by simp)) rfl ?_
    exact PFun.frame (join_c (l.map It.t) [32] (by simp; omega) (by omega)) rfl rfl (fin1 rfl)
/-! ### picks -/
theorem minI2 {a b : Int} {c : Bool} (h : decide (minI a [b] < 0) = c) : decide (a < 0 ∨ b < 0) = c := by
  rw [← h]
  have : minI a [b] = min a b := by simp only [minI]; try (split <;> omega)
  rw [this, Bool.eq_iff_iff, decide_eq_true_eq, decide_eq_true_eq]; omega
theorem maxI2 {a b : Int} {c : Bool} (h : decide (maxI a [b] > 999999) = c) : decide (999999 < a ∨ 999999 < b) = c := by
  rw [← h]
  have : maxI a [b] = max a b := by simp only [maxI]; try (split <;> omega)
  rw [this, Bool.eq_iff_iff, decide_eq_true_eq, decide_eq_true_eq]; omega
theorem pickText_c (p : Pk) (hp : p.ok) : PFun Tryz.prog 80 [p.v] [] (.tup [sv' (pickS p).1, .d (.bool (pickS p).2)]) [] := by
  have s1 := itoa_short hp.2.1
  have s2 := itoa_short hp.2.2
  have out : ∀ {x : Str × Bool}, pickS p = x → V.tup [sv' x.1, .d (.bool x.2)] = V.tup [sv' (pickS p).1, .d (.bool (pickS p).2)] := fun h => by rw [h]
  refine fn_sem pok 55 0 Tryz.func80 (by kernel_rfl) rfl rfl rfl rfl ?_
  refine SWp.go pok (by kernel_rfl) ?_
  refine PFun.call (itoa_c p.thread hp.2.1) ?_
  refine brP_split (fun h1 => ?_) (fun h1 => ?_)
  · refine fin1 (out (x := ([], false)) ?_)
    have h1 := of_decide_eq_true (minI2 h1)
    unfold pickS
    rw [if_pos (by omega)]
  refine brP_split (fun h2 => ?_) (fun h2 => ?_)
  · refine fin1 (out (x := ([], false)) ?_)
    have h2 := of_decide_eq_true (maxI2 h2)
    unfold pickS
    rw [if_pos (by omega)]
  have h1 := of_decide_eq_false (minI2 h1)
  have h2 := of_decide_eq_false (maxI2 h2)
  have hb : ¬ (p.thread < 0 ∨ p.draw < 0 ∨ 999999 < p.thread ∨ 999999 < p.draw) := by omega
  refine brP_split (fun h3 => ?_) (fun h3 => ?_)
  · have k3 : p.kind = 0 := by simpa using h3
    refine brP_split (fun h4 => ?_) (fun h4 => ?_)
    · have k4 : 0 < p.draw := by simpa using h4
      refine ⟨by simp; omega, ?_⟩
      refine PFun.call (itoa_c p.draw hp.2.2) ?_
      refine ⟨by simp; omega, ?_⟩
      refine fin1 (out (x := (Lib.itoa p.thread ++ [46] ++ Lib.itoa p.draw, true)) ?_)
      unfold pickS
      rw [if_neg hb, if_pos k3, if_pos k4]
    · have k4 : ¬ 0 < p.draw := by simpa using h4
      refine brP_true h3 ?_
      refine fin1 (out (x := (Lib.itoa p.thread, true)) ?_)
      unfold pickS
      rw [if_neg hb, if_pos k3, if_neg k4]
  · have k3 : ¬ p.kind = 0 := by simpa using h3
    refine brP_false h3 ?_
    refine brP_split (fun h4 => ?_) (fun h4 => ?_)
    · have k4 : p.kind = 1 := by simpa using h4
      refine ⟨by simp; omega, ?_⟩
      refine brP_split (fun h5 => ?_) (fun h5 => ?_)
      · refine fin1 (out (x := ([115] ++ Lib.itoa p.thread, true)) ?_)
        unfold pickS
        rw [if_neg hb, if_neg k3, if_pos k4, decide_eq_true (by simpa using h5)]
      · refine fin1 (out (x := ([115] ++ Lib.itoa p.thread, false)) ?_)
        unfold pickS
        rw [if_neg hb, if_neg k3, if_pos k4, decide_eq_false (by simpa using h5)]
    · have k4 : ¬ p.kind = 1 := by simpa using h4
      have e5 : (p.kind == 2 && (p.thread == 0 && (p.draw == 0 && true))) = decide (p = ⟨2, 0, 0⟩) := by
        obtain ⟨a, b, c⟩ := p
        rw [Bool.eq_iff_iff]
        simp [Pk.mk.injEq]
      refine brP_split (fun h5 => ?_) (fun h5 => ?_)
      · refine fin1 (out (x := ([116], true)) ?_)
        unfold pickS
        rw [if_neg hb, if_neg k3, if_neg k4, ← e5, h5]
      · refine fin1 (out (x := ([116], false)) ?_)
        unfold pickS
        rw [if_neg hb, if_neg k3, if_neg k4, ← e5, h5]
/-- The texts of the first k picks; the rest of the row is empty. -/
theorem putPicks_c (l : List Pk) (hl : ∀ p ∈ l, p.ok) (hn : l.length ≤ 1073741824) : PFun Tryz.prog 44 [.d (.sl (l.map Pk.e))] [] (.tup [sv' (putPs l).1, iv (putPs l).2]) [] := by
  have hsh := putPs_short hl
  have out : ∀ {x : Str × Int}, putPs l = x → V.tup [sv' x.1, iv x.2] = V.tup [sv' (putPs l).1, iv (putPs l).2] := fun h => by rw [h]
  refine fn_sem pok 36 0 Tryz.func44 (by kernel_rfl) rfl rfl rfl rfl ?_
  refine SWp.go pok (by kernel_rfl) ?_
  refine brP_split (fun h1 => ?_) (fun h1 => ?_)
  · refine fin1 (out (x := ([], 6)) ?_)
    unfold putPs
    rw [if_pos (by simp at h1; omega)]
  have hm : ¬ 20000 < l.length := by simp at h1; omega
  refine ⟨⟨by simp, by simp, by simp; omega⟩, rfl, ?_⟩
  refine SWp.loop (fun q : Nat × List (List D) => q.1 ≤ l.length ∧ q.2 = partT (l.map fun p => (pickS p).1) q.1 ∧ ((l.take q.1).all fun p => (pickS p).2) = true)
    (fun q => ([(4, .arr 0 0 (l.map Pk.e).length), (15, .d (.sl (l.map Pk.e))), (16, iv (l.map Pk.e).length), (17, iv q.1)], [.parr 1 q.2]))
    (fun q => l.length - q.1) (0, List.replicate (l.map Pk.e).length (scell [])) ⟨Nat.zero_le _, by simp [partT], rfl⟩ (Le.same ⟨rfl, rfl, rfl, rfl, trivial⟩) (fun q hq => ?_)
  obtain ⟨k, rows⟩ := q
  obtain ⟨hk, hs, ha⟩ := hq
  simp only at hk hs ha
  subst hs
  refine SWp.go pok (by kernel_rfl) ?_
  refine brP_split (fun h => ?_) (fun h => ?_)
  · have hlt : k < l.length := by simpa using h
    have hlt' : k < (l.map fun p => (pickS p).1).length := by simpa using hlt
    have hset : (partT (l.map fun p => (pickS p).1) k).set (0 + k) (scell (pickS l[k]).1) = partT (l.map fun p => (pickS p).1) (k + 1) := by
      have := partT_set (l.map fun p => (pickS p).1) k hlt'
      rw [List.getElem_map] at this
      rw [Nat.zero_add]; exact this
    have htk : ((l.take (k + 1)).all fun p => (pickS p).2) = (pickS l[k]).2 := by
      rw [take_snoc l k hlt, List.all_append, ha]; simp
    refine PIdx.map (get_at hlt) ?_
    refine PFun.call (pickText_c l[k] (hl _ (List.getElem_mem hlt))) ?_
    refine brP_split (fun h2 => ?_) (fun h2 => ?_)
    · have h2 : (pickS l[k]).2 = false := by simpa using h2
      refine fin1 (out (x := ([], 2)) ?_)
      unfold putPs
      rw [if_neg hm, if_neg]
      rw [List.all_eq_true]
      intro hall
      have := hall _ (List.getElem_mem hlt)
      rw [h2] at this; cases this
    · have h2 : (pickS l[k]).2 = true := by simpa using h2
      refine ⟨by simp; omega, ?_⟩
      refine ⟨scell [], ?_, ?_⟩
      · show (partT (l.map fun p => (pickS p).1) k)[0 + k]? = _
        rw [Nat.zero_add]; exact partT_at _ k hlt'
      · exact ⟨(k + 1, (partT (l.map fun p => (pickS p).1) k).set (0 + k) (scell (pickS l[k]).1)), ⟨hlt, hset, by rw [htk]; exact h2⟩, by show l.length - (k + 1) < l.length - k; omega, .inr ⟨[0], ⟨rfl, rfl⟩, rfl, rfl, rfl, rfl, sint (wrap_nat k (by omega)), trivial⟩⟩
  · have hk' : k = l.length := by simp at h; omega
    subst hk'
    rw [List.take_length] at ha
    have e : putPs l = (Lib.join (l.map fun p => (pickS p).1) [32], 0) := by
      unfold putPs
      rw [if_neg hm, if_pos ha]
    have hp : partT (l.map fun p => (pickS p).1) l.length = (l.map fun p => (pickS p).1).map scell := by
      have := partT_all (l.map fun p => (pickS p).1)
      rw [List.length_map] at this
      exact this
    rw [hp]
    rw [e] at hsh
    refine PCalls.freeze (e := 1) (rows := (l.map fun p => (pickS p).1).map scell) 0 0 (congrArg (fun n => some (V.arr 0 0 n)) (by simp)) rfl ?_
    refine PFun.frame (join_c (l.map fun p => (pickS p).1) [32] (by simp; omega) (by simp at hsh; omega)) rfl rfl ?_
    exact fin1 (out e)
end
end Go.Proofs.YtblnfodnkacbbaaGreatDoor.Q

namespace Go.Proofs.YtblnfodnkacbbaaGreatDoor.Q
open Go.RowKit
variable [Amb] [Vars]
theorem lassoPut_c (l : Ls) (hl : l.ok) (h1 : l.stem.length ≤ 1073741824) (h2 : l.loop.length ≤ 1073741824) : PFun Tryz.prog 21 [l.v] [] (.tup [sv' (putL l).1, iv (putL l).2]) [] := by
  have out : ∀ {x : Str × Int}, putL l = x → V.tup [sv' x.1, iv x.2] = V.tup [sv' (putL l).1, iv (putL l).2] := fun h => by rw [h]
  have p1 := putPs_short hl.1
  have p2 := putPs_short hl.2.1
  have p3 := itoa_short hl.2.2
  have hj := join_short bar 840000 [(putPs l.stem).1, (putPs l.loop).1, Lib.itoa l.thread] (fun w hw => by
    simp only [List.mem_cons, List.not_mem_nil, or_false] at hw
    rcases hw with rfl | rfl | rfl <;> omega)
  refine fn_sem pok 40 0 Tryz.func21 (by kernel_rfl) rfl rfl rfl rfl ?_
  refine SWp.go pok (by kernel_rfl) ?_
  refine PFun.call (putPicks_c l.stem hl.1 h1) ?_
  refine brP_split (fun h3 => ?_) (fun h3 => ?_)
  · have h3 : ¬ (putPs l.stem).2 = 0 := by simpa using h3
    refine fin1 (out (x := ([], (putPs l.stem).2)) ?_)
    unfold putL
    rw [if_pos h3]
  have h3 : (putPs l.stem).2 = 0 := by simpa using h3
  refine PFun.call (putPicks_c l.loop hl.2.1 h2) ?_
  refine brP_split (fun h4 => ?_) (fun h4 => ?_)
  · have h4 : ¬ (putPs l.loop).2 = 0 := by simpa using h4
    refine fin1 (out (x := ([], (putPs l.loop).2)) ?_)
    unfold putL
    rw [if_neg (by rw [h3]; decide), if_pos h4]
  have h4 : (putPs l.loop).2 = 0 := by simpa using h4
  have bad : (l.thread < 0 ∨ 999999 < l.thread) → putL l = ([], 2) := fun h => by
    unfold putL
    rw [if_neg (by rw [h3]; decide), if_neg (by rw [h4]; decide), if_pos h]
  refine brP_split (fun h5 => ?_) (fun h5 => ?_)
  · exact fin1 (out (x := ([], 2)) (bad (.inl (by simpa using h5))))
  refine brP_split (fun h6 => ?_) (fun h6 => ?_)
  · exact fin1 (out (x := ([], 2)) (bad (.inr (by simpa using h6))))
  refine PFun.call (itoa_c l.thread hl.2.2) ?_
  refine PFun.call (join_c [(putPs l.stem).1, (putPs l.loop).1, Lib.itoa l.thread] bar (by simp) (by simp [bar] at hj ⊢; omega)) ?_
  refine fin1 (out (x := (Lib.join [(putPs l.stem).1, (putPs l.loop).1, Lib.itoa l.thread] bar, 0)) ?_)
  unfold putL
  simp only [decide_eq_false_iff_not] at h5 h6
  rw [if_neg (by rw [h3]; decide), if_neg (by rw [h4]; decide), if_neg (by omega)]
theorem put30_c (v : Vd) (hv : v.ok) : PFun Tryz.prog 7 [v.v] [] (.tup [sv' (putV v).1, iv (putV v).2]) [] := by
  have out : ∀ {x : Str × Int}, putV v = x → V.tup [sv' x.1, iv x.2] = V.tup [sv' (putV v).1, iv (putV v).2] := fun h => by rw [h]
  have hw := hv.2.2.2.2.2.2.1
  have hc := hv.2.2.2.2.2.2.2.1
  refine fn_sem pok 84 0 Tryz.func7 (by kernel_rfl) rfl rfl rfl rfl ?_
  refine SWp.go pok (by kernel_rfl) ?_
  refine PFun.call (isPlain_c v hv) ?_
  refine brP_split (fun h1 => ?_) (fun h1 => ?_)
  · have h1 : isPlainS v = false := by simpa using h1
    refine fin1 (out (x := ([], 2)) ?_)
    unfold putV
    rw [h1]; rfl
  have h1 : isPlainS v = true := by simpa using h1
  refine PFun.call (areNumbers_c v hv) ?_
  refine brP_split (fun h2 => ?_) (fun h2 => ?_)
  · have h2 : areNumsS v = false := by simpa using h2
    refine fin1 (out (x := ([], 2)) ?_)
    unfold putV
    rw [h1, h2]; rfl
  have h2 : areNumsS v = true := by simpa using h2
  have e0 : ¬ ((!isPlainS v || !areNumsS v) = true) := by rw [h1, h2]; decide
  refine brP_split (fun h3 => ?_) (fun h3 => ?_)
  · have k3 : v.kind = 1 := by simpa using h3
    refine PFun.call (words_c [.s wErr, .n v.err, .n v.at'] (fun x hx => by
      simp only [List.mem_cons, List.not_mem_nil, or_false] at hx
      rcases hx with rfl | rfl | rfl
      · show wErr.length ≤ 4000000; decide
      · exact hv.2.1
      · exact hv.2.2.1) (by simp)) ?_
    refine fin1 (out (x := (Lib.join [wErr, Lib.itoa v.err, Lib.itoa v.at'] [32], 0)) ?_)
    unfold putV
    rw [if_neg e0, if_pos k3]
  have k3 : ¬ v.kind = 1 := by simpa using h3
  refine brP_split (fun h4 => ?_) (fun h4 => ?_)
  · have k4 : v.kind = 2 := by simpa using h4
    refine PFun.call (words_c [.s wAcc, .n v.seen] (fun x hx => by
      simp only [List.mem_cons, List.not_mem_nil, or_false] at hx
      rcases hx with rfl | rfl
      · show wAcc.length ≤ 4000000; decide
      · exact hv.2.2.2.1) (by simp)) ?_
    refine fin1 (out (x := (Lib.join [wAcc, Lib.itoa v.seen] [32], 0)) ?_)
    unfold putV
    rw [if_neg e0, if_neg k3, if_pos k4]
  have k4 : ¬ v.kind = 2 := by simpa using h4
  refine brP_split (fun h5 => ?_) (fun h5 => ?_)
  · have k5 : v.kind = 4 := by simpa using h5
    refine PFun.call (words_c [.s wUnk, .n v.seen] (fun x hx => by
      simp only [List.mem_cons, List.not_mem_nil, or_false] at hx
      rcases hx with rfl | rfl
      · show wUnk.length ≤ 4000000; decide
      · exact hv.2.2.2.1) (by simp)) ?_
    refine fin1 (out (x := (Lib.join [wUnk, Lib.itoa v.seen] [32], 0)) ?_)
    unfold putV
    rw [if_neg e0, if_neg k3, if_neg k4, if_pos k5]
  have k5 : ¬ v.kind = 4 := by simpa using h5
  refine PFun.call (lassoPut_c v.way hw hv.2.2.2.2.2.2.2.2.1 hv.2.2.2.2.2.2.2.2.2) ?_
  refine brP_split (fun h6 => ?_) (fun h6 => ?_)
  · have h6 : ¬ (putL v.way).2 = 0 := by simpa using h6
    refine fin1 (out (x := ([], (putL v.way).2)) ?_)
    unfold putV
    rw [if_neg e0, if_neg k3, if_neg k4, if_neg k5, if_pos h6]
  have h6 : (putL v.way).2 = 0 := by simpa using h6
  refine SWp.tipSlot 6 1 rfl ?_
  refine SWp.loop (fun q : Nat × List (List D) => q.1 ≤ v.counts.length ∧ q.2 = ([It.s wRej, It.n v.seen] ++ (v.counts.take q.1).map It.n).map It.e)
    (fun q => ([(1, .ptr 0 0), (4, sv' (putL v.way).1), (6, .gsl q.2 1), (61, .d (.sl (v.counts.map icell))), (62, iv (v.counts.map icell).length), (63, iv q.1)], [.box v.cells, .tip 1 q.2.length]))
    (fun q => v.counts.length - q.1) (0, [It.e (.s wRej), It.e (.n v.seen)]) ⟨Nat.zero_le _, rfl⟩ (Le.same ⟨rfl, rfl, rfl, rfl, rfl, rfl, trivial⟩) (fun q hq => ?_)
  obtain ⟨k, rows⟩ := q
  obtain ⟨hk, hs⟩ := hq
  simp only at hk hs
  subst hs
  refine SWp.go pok (by kernel_rfl) ?_
  refine brP_split (fun h => ?_) (fun h => ?_)
  · have hlt : k < v.counts.length := by simpa using h
    refine PIdx.map (get_at hlt) ?_
    refine ⟨⟨rfl, fun r hr => ?_, fun r hr => ?_, ?_⟩, ?_⟩
    · obtain ⟨x, _, rfl⟩ := List.mem_map.1 hr; cases x <;> rfl
    · simp [List.replicate, List.set] at hr; subst hr; rfl
    · simp; omega
    refine ⟨(k + 1, ([It.s wRej, It.n v.seen] ++ (v.counts.take k).map It.n).map It.e ++ [It.e (.n v.counts[k])]), ⟨hlt, ?_⟩, by show v.counts.length - (k + 1) < v.counts.length - k; omega, .inr ⟨[0, 1], ⟨rfl, rfl⟩, rfl, rfl, rfl, rfl, rfl, rfl, sint (wrap_nat k (by omega)), trivial⟩⟩
    rw [take_snoc v.counts k hlt]
    simp only [List.map_append, List.map_cons, List.map_nil, List.append_assoc]
  · have hk' : k = v.counts.length := by simp at h; omega
    subst hk'
    have hp := putL_short hw
    rw [List.take_length]
    refine ⟨⟨rfl, fun r hr => ?_, fun r hr => ?_, ?_⟩, ?_⟩
    · obtain ⟨x, _, rfl⟩ := List.mem_map.1 hr; cases x <;> rfl
    · simp [List.replicate, List.set] at hr
      rcases hr with rfl | rfl | rfl | rfl <;> rfl
    · simp; omega
    have hwo := words_c (([It.s wRej, It.n v.seen] ++ v.counts.map It.n) ++ [It.s [58], It.n v.what, It.s [124], It.s (putL v.way).1]) (fun x hx => by
      simp only [List.mem_append, List.mem_cons, List.not_mem_nil, or_false, List.mem_map] at hx
      rcases hx with ((rfl | rfl) | ⟨n, hn, rfl⟩) | (rfl | rfl | rfl | rfl)
      · show wRej.length ≤ 4000000; decide
      · exact hv.2.2.2.1
      · exact hv.2.2.2.2.1 n hn
      · show (1 : Nat) ≤ 4000000; decide
      · exact hv.2.2.2.2.2.1
      · show (1 : Nat) ≤ 4000000; decide
      · show (putL v.way).1.length ≤ 4000000; omega) (by simp; omega)
    rw [List.map_append (f := It.e)] at hwo
    refine PFun.call hwo ?_
    have ew : (([It.s wRej, It.n v.seen] ++ v.counts.map It.n) ++ [It.s [58], It.n v.what, It.s [124], It.s (putL v.way).1]).map It.t = rejWords v (putL v.way).1 := by
      unfold rejWords
      simp only [List.map_append, List.map_cons, List.map_nil, List.map_map]
      rfl
    refine fin1 (out (x := (Lib.join ((([It.s wRej, It.n v.seen] ++ v.counts.map It.n) ++ [It.s [58], It.n v.what, It.s [124], It.s (putL v.way).1]).map It.t) [32], 0)) ?_)
    unfold putV
    rw [if_neg e0, if_neg k3, if_neg k4, if_neg k5, if_neg (by rw [h6]; decide), ew]
end Go.Proofs.YtblnfodnkacbbaaGreatDoor.Q

namespace Go.Proofs.YtblnfodnkacbbaaGreatDoor.Q
open Go.RowKit
theorem atoi_r {s : Str} {n : Int} (h : Lib.atoiAll s = .ok n) : R64 n := Lib.atoiAll_bounds h
theorem cut_len (s t : Str) : (Lib.cut s t).1.length ≤ s.length ∧ (Lib.cut s t).2.1.length ≤ s.length := by
  unfold Lib.cut
  split
  · exact ⟨by simp only [List.length_take]; omega, by simp only [List.length_drop]; omega⟩
  · exact ⟨Nat.le_refl _, Nat.zero_le _⟩
theorem trim_len (s t : Str) : (Lib.trimPrefix s t).length ≤ s.length := by
  unfold Lib.trimPrefix
  split
  · simp
  · exact Nat.le_refl _
theorem numP_r (s : Str) : R64 (numP s) := by
  unfold numP
  split
  · rename_i n h
    split
    · unfold R64; omega
    · exact atoi_r h
  · unfold R64; omega
theorem numS_r (s : Str) : R64 (numS s) := by
  unfold numS
  split
  · rename_i n h; exact atoi_r h
  · unfold R64; omega
theorem pickP_ok (s : Str) : (pickP s).ok := by
  have z : ∀ n : Int, 0 ≤ n → n ≤ 2 → R64 n := fun n h1 h2 => by unfold R64; omega
  unfold pickP
  split
  · exact ⟨z 2 (by decide) (by decide), z 0 (by decide) (by decide), z 0 (by decide) (by decide)⟩
  split
  · exact ⟨z 1 (by decide) (by decide), numP_r _, z 0 (by decide) (by decide)⟩
  · refine ⟨z 0 (by decide) (by decide), numP_r _, ?_⟩
    show R64 (if _ then _ else _)
    split
    · exact numP_r _
    · exact z 0 (by decide) (by decide)
section
variable [Amb] [Vars]
theorem number30_c (s : Str) (hs : s.length ≤ 1048576) : PFun Tryz.prog 27 [sv' s] [] (iv (numS s)) [] := by
  refine fn_sem pok 13 0 Tryz.func27 (by kernel_rfl) rfl rfl rfl rfl ?_
  refine SWp.go pok (by kernel_rfl) ?_
  refine PCalls.mono (atoi_c s (by omega)) ?_
  rintro r h' ⟨rfl, ⟨n, h1, rfl⟩ | ⟨h1, n, t, u, rfl⟩⟩
  · exact fin1 (dint (by unfold numS; rw [h1]))
  · refine fin1 (dint ?_)
    unfold numS
    split
    · rename_i m hm; exact absurd hm (h1 m)
    · rfl
theorem numP_c (s : Str) (hs : s.length ≤ 1048576) : PFun Tryz.prog 189 [sv' s] [] (iv (numP s)) [] := by
  refine fn_sem pok 23 0 Tryz.func189 (by kernel_rfl) rfl rfl rfl rfl ?_
  refine SWp.go pok (by kernel_rfl) ?_
  refine PCalls.mono (atoi_c s (by omega)) ?_
  rintro r h' ⟨rfl, ⟨n, h1, rfl⟩ | ⟨h1, n, t, u, rfl⟩⟩
  · refine brP_split (fun h2 => ?_) (fun h2 => ?_)
    · refine fin1 (dint ?_)
      unfold numP; rw [h1]; dsimp only
      rw [if_pos (.inl (by simpa using h2))]
    refine PFun.call (itoa_c n (atoi_r h1)) ?_
    refine brP_split (fun h3 => ?_) (fun h3 => ?_)
    · refine fin1 (dint ?_)
      unfold numP; rw [h1]; dsimp only
      rw [if_pos (.inr (by simpa using h3))]
    · refine fin1 (dint ?_)
      unfold numP; rw [h1]; dsimp only
      rw [if_neg]
      rintro (h | h)
      · simp at h2; omega
      · simp at h3; exact h h3
  · refine fin1 (dint ?_)
    unfold numP
    split
    · rename_i m hm; exact absurd hm (h1 m)
    · rfl
theorem pickP_c (s : Str) (hs : s.length ≤ 1048576) : PFun Tryz.prog 141 [sv' s] [] (pickP s).v [] := by
  have out : ∀ {x : Pk}, pickP s = x → x.v = (pickP s).v := fun h => by rw [h]
  have c1 := cut_len s [46]
  have c2 := trim_len s [115]
  refine fn_sem pok 35 0 Tryz.func141 (by kernel_rfl) rfl rfl rfl rfl ?_
  refine SWp.go pok (by kernel_rfl) ?_
  refine brP_split (fun h1 => ?_) (fun h1 => ?_)
  · refine fin1 (out (x := ⟨2, 0, 0⟩) ?_)
    unfold pickP
    rw [if_pos (by simpa using h1)]
  have k1 : ¬ s = [116] := by simpa using h1
  refine PFun.call (cutPrefix_c s [115]) ?_
  refine brP_split (fun h2 => ?_) (fun h2 => ?_)
  · refine PFun.call (numP_c _ (by omega)) ?_
    refine fin1 (out (x := ⟨1, numP (Lib.trimPrefix s [115]), 0⟩) ?_)
    unfold pickP
    rw [if_neg k1, if_pos h2]
  refine PFun.call (cut_c s [46] (by omega)) ?_
  refine PFun.call (numP_c _ (by omega)) ?_
  refine brP_split (fun h3 => ?_) (fun h3 => ?_)
  · refine PFun.call (numP_c _ (by omega)) ?_
    refine fin1 (out (x := ⟨0, numP (Lib.cut s [46]).1, numP (Lib.cut s [46]).2.1⟩) ?_)
    unfold pickP
    rw [if_neg k1, if_neg (by rw [h2]; decide), if_pos h3]
  · refine fin1 (out (x := ⟨0, numP (Lib.cut s [46]).1, 0⟩) ?_)
    unfold pickP
    rw [if_neg k1, if_neg (by rw [h2]; decide), if_neg (by rw [h3]; decide)]
/-! ### words, one behind the other -/
def runS : List (List V) → List Str → Bool × List (List V)
  | xs, [] => (true, xs)
  | xs, y :: ys => if Amb.go (xs ++ [[sv' y]]) = true then runS (xs ++ [[sv' y]]) ys else (false, xs ++ [[sv' y]])
def WentsS (xs : List (List V)) : Prop := ∀ m, 0 < m → m ≤ xs.length → Amb.go (xs.take m) = true
theorem WentsS.snoc {xs : List (List V)} {a : List V} (h : WentsS xs) (k : Amb.go (xs ++ [a]) = true) : WentsS (xs ++ [a]) := fun m h0 hm => by
  by_cases e : m ≤ xs.length
  · rw [List.take_append_of_le_length e]; exact h m h0 e
  · have : m = (xs ++ [a]).length := by simp at hm ⊢; omega
    rw [this, List.take_length]; exact k
theorem splitSeq_c (s : Str) : PFun Tryz.prog 140 [sv' s, sv' [32]] [] (.fn (.func 220) [] [.ptr 0 0, .ptr 1 0, .ptr 2 0]) [.box [sv' [32]], .box [sv' s], .box [iv 0]] := by
  have c : PFun Tryz.prog 187 [sv' s, sv' [32], iv 0] [] (.fn (.func 220) [] [.ptr 0 0, .ptr 1 0, .ptr 2 0]) [.box [sv' [32]], .box [sv' s], .box [iv 0]] := by
    refine fn_sem pok 8 0 Tryz.func187 (by kernel_rfl) rfl rfl rfl rfl ?_
    refine SWp.go pok (by kernel_rfl) ?_
    exact ⟨rfl, rfl⟩
  refine fn_sem pok 8 0 Tryz.func140 (by kernel_rfl) rfl rfl rfl rfl ?_
  refine SWp.go pok (by kernel_rfl) ?_
  refine PFun.call c ?_
  exact ⟨rfl, rfl⟩
theorem splitSeq1_c (s : Str) (hs : s.length ≤ 1048576) (hok : ∀ zs (w : Str), w.length ≤ 1048576 → Amb.ok Tryz.prog (zs ++ [[sv' w]])) :
    PCalls Tryz.prog 220 [.yld 3, .ptr 0 0, .ptr 1 0, .ptr 2 0] [.box [sv' [32]], .box [sv' s], .box [iv 0], .hist []] fun r h' => ∃ t, h' = [.box [sv' [32]], .box [sv' t], .box [iv 0], .hist (runS [] (Lib.split s [32])).2] := by
  refine fn_sem pok 52 4 Tryz.func220 (by kernel_rfl) rfl rfl rfl rfl ?_
  refine SWp.go pok (by kernel_rfl) ?_
  refine SWp.loop (fun q : Str × List (List V) => q.1.length ≤ 1048576 ∧ WentsS q.2 ∧ runS [] (Lib.split s [32]) = runS q.2 (Lib.split q.1 [32]))
    (fun q => ([(0, .yld 3), (1, .ptr 0 0), (2, .ptr 1 0), (3, .ptr 2 0)], [.box [sv' [32]], .box [sv' q.1], .box [iv 0], .hist q.2]))
    (fun q => q.1.length) (s, []) ⟨hs, (fun m h0 hm => by simp at hm; omega), rfl⟩ (Le.same ⟨rfl, rfl, rfl, rfl, trivial⟩) (fun q hq => ?_)
  obtain ⟨t, xs⟩ := q
  obtain ⟨ht, hw, hr⟩ := hq
  dsimp only at ht hw hr
  refine SWp.go pok (by kernel_rfl) ?_
  have hx := index_c t [32] (by omega)
  have hge := Lib.index_ge t [32]
  by_cases hm : Lib.index t [32] = -1
  · rw [hm] at hx
    have e : (runS [] (Lib.split s [32])).2 = xs ++ [[sv' t]] := by
      rw [hr, split_miss hm, runS]
      split <;> rfl
    rw [e]
    refine PFun.call hx ?_
    refine ⟨⟨hok xs t ht, hw⟩, brP_split (fun h => ?_) (fun h => ?_)⟩
    · exact ⟨t, rfl⟩
    · exact ⟨t, rfl⟩
  · obtain ⟨i, hi⟩ : ∃ i : Nat, Lib.index t [32] = i := ⟨(Lib.index t [32]).toNat, by omega⟩
    have hroom := Lib.index_room t [32] (by omega)
    rw [hi] at hroom hx
    have hroom : i + 1 ≤ t.length := by
      have : ([32] : Str).length = 1 := rfl
      omega
    have w0 : IntKind.i64.wrap ((i : Int) + 0) = (i : Int) := by rw [Int.add_zero]; exact wrap_in (by unfold R64; omega)
    have w1 : IntKind.i64.wrap ((i : Int) + ((([32] : Str).length : Nat) : Int)) = ((i + 1 : Nat) : Int) := wrap_nat i (by omega)
    have c0 : cutFrom (cutTo t (some (IntKind.i64.wrap ((i : Int) + 0)))) none = t.take i := by rw [w0]; rfl
    have c1 : cutFrom (cutTo t none) (some (IntKind.i64.wrap ((i : Int) + ((([32] : Str).length : Nat) : Int)))) = t.drop (i + 1) := by rw [w1]; rfl
    have hsp : Lib.split t [32] = t.take i :: Lib.split (t.drop (i + 1)) [32] := split_hit (by decide) hi
    refine PFun.call hx ?_
    refine ⟨by rw [w0]; show cutOk t.length _ _; unfold cutOk; omega, ?_⟩
    have hok1 := hok xs (t.take i) (by rw [List.length_take]; omega)
    rw [← c0] at hok1
    refine ⟨⟨hok1, hw⟩, brP_split (fun h => ?_) (fun h => ?_)⟩
    · refine ⟨by show cutOk t.length (some (IntKind.i64.wrap ((i : Int) + ((([32] : Str).length : Nat) : Int)))) none; rw [w1]; unfold cutOk; omega, ?_⟩
      have h' : Amb.go (xs ++ [[sv' (t.take i)]]) = true := by rw [← c0]; exact h
      refine ⟨(cutFrom (cutTo t none) (some (IntKind.i64.wrap ((i : Int) + ((([32] : Str).length : Nat) : Int)))), xs ++ [[sv' (cutFrom (cutTo t (some (IntKind.i64.wrap ((i : Int) + 0)))) none)]]), ⟨?_, ?_, ?_⟩, ?_, .inr ⟨[0, 1, 2, 3], ⟨rfl, rfl⟩, rfl, rfl, rfl, rfl, rfl, trivial⟩⟩
      · dsimp only; rw [c1, List.length_drop]; omega
      · dsimp only; rw [c0]; exact hw.snoc h'
      · dsimp only; rw [c0, c1, hr, hsp, runS, if_pos h']
      · dsimp only; rw [c1, List.length_drop]; omega
    · have h' : ¬ Amb.go (xs ++ [[sv' (t.take i)]]) = true := by rw [← c0]; intro e; rw [show _ = false from h] at e; cases e
      have e : (runS [] (Lib.split s [32])).2 = xs ++ [[sv' (cutFrom (cutTo t (some (IntKind.i64.wrap ((i : Int) + 0)))) none)]] := by
        rw [c0, hr, hsp, runS, if_neg h']
      rw [e]
      exact ⟨t, rfl⟩
end
/-! ### all picks of a text -/
/-- The picks so far; whether all words were picks. -/
def goB : List Pk → List Str → List Pk × Bool
  | l, [] => (l, true)
  | l, w :: ws => if pickOk l.length w = true then goB (l ++ [pickP w]) ws else (l, false)
theorem goB_pks : ∀ (ws : List Str) (l : List Pk), pksGo l ws = if (goB l ws).2 = true then some (goB l ws).1 else none
  | [], l => by simp [pksGo, goB]
  | w :: ws, l => by
    rw [pksGo, goB]
    split
    · exact goB_pks ws _
    · rfl
theorem goB_snoc (w : Str) : ∀ (ws : List Str) (l : List Pk), goB l (ws ++ [w]) = if (goB l ws).2 = true then (if pickOk (goB l ws).1.length w = true then ((goB l ws).1 ++ [pickP w], true) else ((goB l ws).1, false)) else goB l ws
  | [], l => rfl
  | v :: ws, l => by
    rw [List.cons_append, goB, goB]
    split
    · exact goB_snoc w ws _
    · simp
def strOf : List V → Str
  | [.d (.str s)] => s
  | _ => []
def goX (xs : List (List V)) : List Pk × Bool := goB [] (xs.map strOf)
def stB (g : List Pk × Bool) : List Ob := [.box [.fsl []], .box [iv (if g.2 = true then 0 else 2)], .box [.gsl (g.1.map Pk.e) 6], .dead, .dead, .dead, .tip 3 (g.1.map Pk.e).length]
def stX (xs : List (List V)) : List Ob := stB (goX xs)
def finX (xs : List (List V)) : PX := if (goX xs).2 = true then .normal else .ret
theorem goX_snoc (xs : List (List V)) (w : Str) : goX (xs ++ [[sv' w]]) = if (goX xs).2 = true then (if pickOk (goX xs).1.length w = true then ((goX xs).1 ++ [pickP w], true) else ((goX xs).1, false)) else goX xs := by
  unfold goX
  rw [List.map_append]
  exact goB_snoc w _ _
theorem goB_mem : ∀ (ws : List Str) (l : List Pk), (∀ p ∈ l, p.ok) → ∀ p ∈ (goB l ws).1, p.ok
  | [], l, h => h
  | w :: ws, l, h => by
    rw [goB]
    split
    · refine goB_mem ws _ fun p hp => ?_
      rw [List.mem_append, List.mem_singleton] at hp
      rcases hp with hp | rfl
      · exact h p hp
      · exact pickP_ok w
    · exact h
theorem goB_len : ∀ (ws : List Str) (l : List Pk), l.length ≤ 20000 → (goB l ws).1.length ≤ 20000
  | [], l, h => h
  | w :: ws, l, h => by
    rw [goB]
    split
    · rename_i hk
      refine goB_len ws _ ?_
      unfold pickOk at hk
      simp at hk ⊢; omega
    · exact h
theorem parsePs_ok (s : Str) : (∀ p ∈ (parsePs s).1, p.ok) ∧ (parsePs s).1.length ≤ 20000 := by
  unfold parsePs
  split
  · exact ⟨fun p hp => absurd hp (by simp), by simp⟩
  · rw [goB_pks]
    split
    · rename_i l h
      split at h
      · injection h with h
        subst h
        exact ⟨goB_mem _ [] (by simp), goB_len _ [] (by simp)⟩
      · cases h
    · exact ⟨fun p hp => absurd hp (by simp), by simp⟩
/-- The words that are handed on are gone through as they are. -/
theorem runS_spec [Amb] : ∀ (ws : List Str) (xs : List (List V)), (∀ zs, Amb.go zs = (goX zs).2) → (goX xs).2 = true → goX (runS xs ws).2 = goB (goX xs).1 ws
  | [], xs, hg, hx => by
    show goX xs = ((goX xs).1, true)
    rw [← hx]
  | w :: ws, xs, hg, hx => by
    have hs := goX_snoc xs w
    rw [if_pos hx] at hs
    rw [runS, goB]
    rw [hg]
    by_cases hk : pickOk (goX xs).1.length w = true
    · rw [if_pos hk] at hs ⊢
      rw [hs, if_pos rfl, runS_spec ws _ hg (by rw [hs]), hs]
    · rw [if_neg hk] at hs ⊢
      rw [hs, if_neg (by simp)]
      exact hs
variable [Amb] [Vars]
theorem scriptParse_c (s : Str) (hs : s.length ≤ 1048576) : PFun Tryz.prog 88 [sv' s] [] (.tup [.d (.sl ((parsePs s).1.map Pk.e)), iv (parsePs s).2]) [] := by
  refine fn_sem pok 38 0 Tryz.func88 (by kernel_rfl) rfl rfl rfl rfl ?_
  refine SWp.go pok (by kernel_rfl) ?_
  refine brP_split (fun h1 => ?_) (fun h1 => ?_)
  · have h1 : s = [] := by simpa using h1
    subst h1
    exact fin1 rfl
  have k1 : ¬ s = [] := by simpa using h1
  refine PFun.call (splitSeq_c s) ?_
  refine SWp.tipBox 2 0 3 rfl rfl ?_
  refine SWp.range 220 [.ptr 3 0, .ptr 4 0, .ptr 5 0] rfl rfl (by decide) finX rfl (fun xs => ∃ zs w, xs = zs ++ [[sv' w]] ∧ w.length ≤ 1048576)
    (fun xs a ⟨zs, w, e, _⟩ => by have := (List.append_inj' e rfl).2; injection this with this; rw [this]; rfl)
    stX (fun xs => rfl)
    (fun xs => goX xs = goB [] (Lib.split s [32])) (fun l xs a hok hfin => ?_) ?_ (fun xs hz => ?_)
  · obtain ⟨zs, w, e, hw⟩ := hok
    obtain ⟨e1, e2⟩ := List.append_inj' e rfl
    injection e2 with e2
    subst e1; subst e2
    have hx : (goX xs).2 = true := by
      cases h : (goX xs).2 with
      | true => rfl
      | false => unfold finX at hfin; rw [h] at hfin; cases hfin
    have hs' := goX_snoc xs w
    rw [if_pos hx] at hs'
    have hok' := (goB_mem (xs.map strOf) [] (by simp) : ∀ p ∈ (goX xs).1, p.ok)
    have hlen := (goB_len (xs.map strOf) [] (by simp) : (goX xs).1.length ≤ 20000)
    unfold roundQ
    have s0 : stX xs = stB ((goX xs).1, true) := by unfold stX; rw [← hx]
    rw [s0]
    have tc := pickText_c (pickP w) (pickP_ok w)
    by_cases hk : pickOk (goX xs).1.length w = true
    · rw [if_pos hk] at hs'
      have f1 : finX (xs ++ [[sv' w]]) = .normal := by unfold finX; rw [hs']; rfl
      have s1 : stX (xs ++ [[sv' w]]) = stB ((goX xs).1 ++ [pickP w], true) := by unfold stX; rw [hs']
      rw [f1, s1]
      unfold stB
      rw [List.map_append]
      have hk2 := hk
      unfold pickOk at hk2
      simp only [Bool.and_eq_true, beq_iff_eq, decide_eq_true_eq] at hk2
      rw [hk2.1.1, hk2.1.2] at tc
      refine SWp.go pok (by kernel_rfl) ?_
      refine SWp.go pok (by kernel_rfl) ?_
      refine PFun.call (pickP_c w hw) ?_
      refine PFun.call tc ?_
      refine brP_false (by simp) ?_
      refine brP_false (by simp; omega) ?_
      refine ⟨⟨rfl, fun r hr => ?_, fun r hr => ?_, ?_⟩, ?_⟩
      · obtain ⟨x, _, rfl⟩ := List.mem_map.1 hr; rfl
      · simp [List.replicate, List.set] at hr; subst hr; rfl
      · simp; omega
      exact ⟨rfl, .inr ⟨[0, 1, 2, 3, 4, 5, 6], ⟨rfl, rfl⟩, rfl, trivial⟩⟩
    · rw [if_neg hk] at hs'
      have f1 : finX (xs ++ [[sv' w]]) = .ret := by unfold finX; rw [hs']; rfl
      have s1 : stX (xs ++ [[sv' w]]) = stB ((goX xs).1, false) := by unfold stX; rw [hs']
      rw [f1, s1]
      refine SWp.go pok (by kernel_rfl) ?_
      refine SWp.go pok (by kernel_rfl) ?_
      refine PFun.call (pickP_c w hw) ?_
      refine PFun.call tc ?_
      refine brP_split (fun h2 => ?_) (fun h2 => ?_)
      · exact ⟨rfl, .inr ⟨[0, 1, 2, 3, 4, 5, 6], ⟨rfl, rfl⟩, rfl, trivial⟩⟩
      refine brP_split (fun h3 => ?_) (fun h3 => ?_)
      · exact ⟨rfl, .inr ⟨[0, 1, 2, 3, 4, 5, 6], ⟨rfl, rfl⟩, rfl, trivial⟩⟩
      refine brP_split (fun h4 => ?_) (fun h4 => ?_)
      · exact ⟨rfl, .inr ⟨[0, 1, 2, 3, 4, 5, 6], ⟨rfl, rfl⟩, rfl, trivial⟩⟩
      refine absurd ?_ hk
      unfold pickOk
      simp at h2 h3 h4
      simp only [Bool.and_eq_true, beq_iff_eq, decide_eq_true_eq]
      exact ⟨⟨h2, h3⟩, by omega⟩
  · refine ⟨rfl, rfl, fun A' ht _ hgo hok => ?_⟩
    refine PCalls.mono (@splitSeq1_c A' (Vars.of ht inferInstance) s hs (fun zs w hw => by rw [hok]; exact ⟨rfl, zs, w, rfl, hw⟩)) ?_
    rintro r h' ⟨t, rfl⟩
    refine ⟨_, [.box [sv' [32]], .box [sv' t], .box [iv 0]], rfl, rfl, ?_⟩
    have := @runS_spec A' (Lib.split s [32]) [] (fun zs => by
      rw [hgo]
      show (finX zs).goes = _
      unfold finX
      cases (goX zs).2 <;> rfl) rfl
    exact this
  · have e : parsePs s = if (goB [] (Lib.split s [32])).2 = true then ((goB [] (Lib.split s [32])).1, 0) else ([], 2) := by
      unfold parsePs
      rw [if_neg k1, goB_pks]
      split
      · rename_i l h
        split at h
        · rename_i h2; injection h with h; rw [if_pos h2, h]
        · cases h
      · rename_i h
        split at h
        · cases h
        · rename_i h2; rw [if_neg h2]
    unfold finX stX
    rw [hz, e]
    generalize goB [] (Lib.split s [32]) = g
    obtain ⟨l, b⟩ := g
    cases b with
    | true => exact fin1 rfl
    | false => exact fin1 rfl
end Go.Proofs.YtblnfodnkacbbaaGreatDoor.Q

namespace Go.Proofs.YtblnfodnkacbbaaGreatDoor.Q
open Go.RowKit
theorem splitK_len (sep : Str) : ∀ (k : Nat) (s : Str), ∀ w ∈ Lib.splitK sep 0 k s, w.length ≤ s.length
  | 0, s, w, h => by rw [Lib.splitK, List.mem_singleton] at h; rw [h]; exact Nat.le_refl _
  | k + 1, s, w, h => by
    rw [Lib.splitK] at h
    split at h
    · rw [List.mem_singleton] at h; rw [h]; exact Nat.le_refl _
    · rw [List.mem_cons] at h
      rcases h with rfl | h
      · rw [List.length_take]; omega
      · have := splitK_len sep k _ w h
        rw [List.length_drop] at this; omega
theorem split_len {s sep w : Str} (h : w ∈ Lib.split s sep) : w.length ≤ s.length := splitK_len sep _ s w h
theorem splitK_num (sep : Str) : ∀ (k : Nat) (s : Str), (Lib.splitK sep 0 k s).length ≤ k + 1
  | 0, s => by rw [Lib.splitK]; simp
  | k + 1, s => by
    rw [Lib.splitK]
    split
    · simp
    · have := splitK_num sep k (s.drop ((Lib.index s sep).toNat + sep.length))
      rw [List.length_cons]; omega
theorem split_num (s sep : Str) : (Lib.split s sep).length ≤ s.length + 2 := by
  have := splitK_num sep (Lib.count s sep) s
  have := Lib.count_le s sep
  unfold Lib.split; omega
theorem parseL_ok (s : Str) : (parseL s).1.ok ∧ (parseL s).1.stem.length ≤ 20000 ∧ (parseL s).1.loop.length ≤ 20000 := by
  have z : Ls.zero.ok ∧ Ls.zero.stem.length ≤ 20000 ∧ Ls.zero.loop.length ≤ 20000 := ⟨⟨(fun p h => absurd h (by simp [Ls.zero])), (fun p h => absurd h (by simp [Ls.zero])), by show R64 0; unfold R64; omega⟩, by simp [Ls.zero], by simp [Ls.zero]⟩
  unfold parseL
  split
  · rename_i a b c h
    split
    · rename_i t ht
      split
      · exact ⟨⟨(parsePs_ok a).1, (parsePs_ok b).1, atoi_r ht⟩, (parsePs_ok a).2, (parsePs_ok b).2⟩
      · exact z
    · exact z
  · exact z
variable [Amb] [Vars]
theorem lassoParse_c (s : Str) (hs : s.length ≤ 1048576) : PFun Tryz.prog 50 [sv' s] [] (.tup [(parseL s).1.v, iv (parseL s).2]) [] := by
  have out : ∀ {x : Ls × Int}, parseL s = x → V.tup [x.1.v, iv x.2] = V.tup [(parseL s).1.v, iv (parseL s).2] := fun h => by rw [h]
  have hc := split_c s bar (by omega) (by decide)
  have hl : ∀ w ∈ Lib.split s bar, w.length ≤ 1048576 := fun w hw => Nat.le_trans (split_len hw) hs
  refine fn_sem pok 70 0 Tryz.func50 (by kernel_rfl) rfl rfl rfl rfl ?_
  refine SWp.go pok (by kernel_rfl) ?_
  have bad : (∀ a b c, Lib.split s bar ≠ [a, b, c]) → parseL s = (.zero, 2) := fun h => by
    unfold parseL
    split
    · rename_i a b c e; exact absurd e (h a b c)
    · rfl
  match hsp : Lib.split s bar with
  | [] => rw [hsp] at hc; refine PFun.call hc ?_; exact fin1 (out (bad (by rw [hsp]; intros; simp)))
  | [_] => rw [hsp] at hc; refine PFun.call hc ?_; exact fin1 (out (bad (by rw [hsp]; intros; simp)))
  | [_, _] => rw [hsp] at hc; refine PFun.call hc ?_; exact fin1 (out (bad (by rw [hsp]; intros; simp)))
  | a :: b :: c :: d :: r =>
    rw [hsp] at hc
    refine PFun.call hc ?_
    exact fin1 (out (bad (by rw [hsp]; intros; simp)))
  | [a, b, c] =>
    rw [hsp] at hc hl
    have la := hl a (by simp)
    have lb := hl b (by simp)
    have lc := hl c (by simp)
    refine PFun.call hc ?_
    refine PIdx.map (x := a) (i := 0) rfl ?_
    refine PFun.call (scriptParse_c a la) ?_
    refine PIdx.map (x := b) (i := 1) rfl ?_
    refine PFun.call (scriptParse_c b lb) ?_
    refine PIdx.map (x := c) (i := 2) rfl ?_
    refine PCalls.mono (atoi_c c (by omega)) ?_
    rintro r h' ⟨rfl, ⟨n, h1, rfl⟩ | ⟨h1, n, t, u, rfl⟩⟩
    · have e : parseL s = if (parsePs a).2 = 0 ∧ (parsePs b).2 = 0 ∧ putL ⟨(parsePs a).1, (parsePs b).1, n⟩ = (s, 0) then (⟨(parsePs a).1, (parsePs b).1, n⟩, 0) else (.zero, 2) := by
        unfold parseL; rw [hsp]; dsimp only; rw [h1]
      refine brP_split (fun h2 => ?_) (fun h2 => ?_)
      · refine fin1 (out (x := (.zero, 2)) ?_)
        rw [e, if_neg]; rintro ⟨k, _⟩; simp [k] at h2
      refine brP_split (fun h3 => ?_) (fun h3 => ?_)
      · refine fin1 (out (x := (.zero, 2)) ?_)
        rw [e, if_neg]; rintro ⟨_, k, _⟩; simp [k] at h3
      have hlo : Ls.ok ⟨(parsePs a).1, (parsePs b).1, n⟩ := ⟨(parsePs_ok a).1, (parsePs_ok b).1, atoi_r h1⟩
      have la2 := (parsePs_ok a).2
      have lb2 := (parsePs_ok b).2
      refine PFun.call (lassoPut_c ⟨(parsePs a).1, (parsePs b).1, n⟩ hlo (by show (parsePs a).1.length ≤ _; omega) (by show (parsePs b).1.length ≤ _; omega)) ?_
      refine brP_split (fun h4 => ?_) (fun h4 => ?_)
      · refine fin1 (out (x := (.zero, 2)) ?_)
        rw [e, if_neg]; rintro ⟨_, _, k⟩; simp [k] at h4
      refine brP_split (fun h5 => ?_) (fun h5 => ?_)
      · refine fin1 (out (x := (.zero, 2)) ?_)
        rw [e, if_neg]; rintro ⟨_, _, k⟩; simp [k] at h5
      · refine fin1 (out (x := (⟨(parsePs a).1, (parsePs b).1, n⟩, 0)) ?_)
        rw [e, if_pos]
        simp at h2 h3 h4 h5
        exact ⟨h2, h3, Prod.ext h5 h4⟩
    · have e : parseL s = (.zero, 2) := by
        unfold parseL; rw [hsp]; dsimp only
        split
        · rename_i m hm; exact absurd hm (h1 m)
        · rfl
      refine brP_split (fun h2 => ?_) (fun h2 => ?_)
      · exact fin1 (out e)
      refine brP_split (fun h3 => ?_) (fun h3 => ?_)
      · exact fin1 (out e)
      · exact fin1 (out e)
theorem guess_ok (s : Str) (hs : s.length ≤ 900000) : (guessV s).ok := by
  have z : ∀ n : Int, 0 ≤ n → n ≤ 4 → R64 n := fun n h1 h2 => by unfold R64; omega
  have hz : Ls.zero.ok := ⟨(fun p h => absurd h (by simp [Ls.zero])), (fun p h => absurd h (by simp [Ls.zero])), z 0 (by decide) (by decide)⟩
  have rej : (rejS s).ok := by
    unfold rejS
    dsimp only
    have hp := parseL_ok (Lib.cut (Lib.cut s colon).2.1 bar).2.1
    refine ⟨z 3 (by decide) (by decide), z 0 (by decide) (by decide), z 0 (by decide) (by decide), ?_, ?_, numS_r _, hp.1, ?_, Nat.le_trans hp.2.1 (by decide), Nat.le_trans hp.2.2 (by decide)⟩
    · show R64 (match Lib.split (Lib.cut s colon).1 [32] with | _ :: b :: _ => numS b | _ => 0)
      split
      · exact numS_r _
      · exact z 0 (by decide) (by decide)
    · intro n hn
      obtain ⟨w, _, rfl⟩ := List.mem_map.1 hn
      exact numS_r w
    · have := split_num (Lib.cut s colon).1 [32]
      have := (cut_len s colon).1
      show (List.map numS (List.drop 2 _)).length ≤ 1000000
      rw [List.length_map, List.length_drop]; omega
  have n0 : (0 : Nat) ≤ 1073741824 := by decide
  unfold guessV
  split
  · split
    · exact ⟨z 1 (by decide) (by decide), numS_r _, numS_r _, z 0 (by decide) (by decide), (fun n h => absurd h (by simp)), z 0 (by decide) (by decide), hz, by simp, n0, n0⟩
    · exact rej
  · split
    · exact ⟨z 2 (by decide) (by decide), z 0 (by decide) (by decide), z 0 (by decide) (by decide), numS_r _, (fun n h => absurd h (by simp)), z 0 (by decide) (by decide), hz, by simp, n0, n0⟩
    split
    · exact ⟨z 4 (by decide) (by decide), z 0 (by decide) (by decide), z 0 (by decide) (by decide), numS_r _, (fun n h => absurd h (by simp)), z 0 (by decide) (by decide), hz, by simp, n0, n0⟩
    · exact rej
  · exact rej
theorem rejected_c (s : Str) (hs : s.length ≤ 900000) : PFun Tryz.prog 28 [sv' s] [] (rejS s).v [] := by
  have l1 := cut_len s colon
  have l2 := cut_len (Lib.cut s colon).2.1 bar
  have hl : ∀ w ∈ Lib.split (Lib.cut s colon).1 [32], w.length ≤ 1048576 := fun w hw => by
    have := split_len hw
    omega
  have hn := split_num (Lib.cut s colon).1 [32]
  have hsp := split_c (Lib.cut s colon).1 [32] (by omega) (by decide)
  have rj : rejS s = ⟨3, 0, 0, (match Lib.split (Lib.cut s colon).1 [32] with | _ :: b :: _ => numS b | _ => 0), ((Lib.split (Lib.cut s colon).1 [32]).drop 2).map numS, numS (Lib.cut (Lib.cut s colon).2.1 bar).1, (parseL (Lib.cut (Lib.cut s colon).2.1 bar).2.1).1⟩ := rfl
  rw [rj]
  generalize Lib.split (Lib.cut s colon).1 [32] = ws at hsp hl hn
  refine fn_sem pok 60 0 Tryz.func28 (by kernel_rfl) rfl rfl rfl rfl ?_
  refine SWp.go pok (by kernel_rfl) ?_
  refine PFun.call (cut_c s colon (by omega)) ?_
  refine PFun.call (cut_c (Lib.cut s colon).2.1 bar (by omega)) ?_
  refine PFun.call hsp ?_
  refine PFun.call (number30_c (Lib.cut (Lib.cut s colon).2.1 bar).1 (by omega)) ?_
  have hpl := lassoParse_c (Lib.cut (Lib.cut s colon).2.1 bar).2.1 (by omega)
  match ws, hl, hn with
  | [], _, _ =>
    refine PFun.call hpl ?_
    exact fin1 rfl
  | [a], _, _ =>
    refine PFun.call hpl ?_
    exact fin1 rfl
  | a :: b :: r, hl, hn =>
    refine brP_true (by simp; omega) ?_
    refine PIdx.map (x := b) (i := 1) rfl ?_
    refine PFun.call (number30_c b (hl b (by simp))) ?_
    refine ⟨by simp [cutOk]; omega, fun r hr => by obtain ⟨x, _, rfl⟩ := List.mem_map.1 hr; rfl, ?_⟩
    refine SWp.tipBox 1 4 1 rfl rfl ?_
    refine SWp.loop (fun q : Nat × List (List D) => q.1 ≤ r.length ∧ q.2 = ((r.take q.1).map numS).map icell)
      (fun q => ([(2, .ptr 0 0), (7, sv' (Lib.cut (Lib.cut s colon).2.1 bar).2.1), (10, .ptr 1 0), (39, .d (.sl (r.map scell))), (40, iv (r.map scell).length), (41, iv q.1)], [.box [iv 0, iv 0, iv 0, iv 0, .fsl [], iv 0, .fsl [], .fsl [], iv 0], .box [iv 3, iv 0, iv 0, iv (numS b), .gsl q.2 2, iv (numS (Lib.cut (Lib.cut s colon).2.1 bar).1), .fsl [], .fsl [], iv 0], .tip 1 q.2.length]))
      (fun q => r.length - q.1) (0, []) ⟨Nat.zero_le _, rfl⟩ (Le.same ⟨rfl, rfl, rfl, rfl, rfl, rfl, trivial⟩) (fun q hq => ?_)
    obtain ⟨k, rows⟩ := q
    obtain ⟨hk, hs'⟩ := hq
    simp only at hk hs'
    subst hs'
    refine SWp.go pok (by kernel_rfl) ?_
    refine brP_split (fun h => ?_) (fun h => ?_)
    · have hlt : k < r.length := by simpa using h
      refine PIdx.map (get_at hlt) ?_
      refine ⟨_, _, number30_c r[k] (hl _ (List.mem_cons_of_mem _ (List.mem_cons_of_mem _ (List.getElem_mem hlt)))), ?_⟩
      refine ⟨⟨rfl, fun x hx => ?_, fun x hx => ?_, ?_⟩, ?_⟩
      · obtain ⟨n, _, rfl⟩ := List.mem_map.1 hx; rfl
      · simp [List.replicate, List.set] at hx; subst hx; rfl
      · simp at hn ⊢; omega
      refine ⟨(k + 1, ((r.take k).map numS).map icell ++ [icell (numS r[k])]), ⟨hlt, ?_⟩, by show r.length - (k + 1) < r.length - k; omega, .inr ⟨[0, 1, 2], ⟨rfl, rfl⟩, rfl, rfl, rfl, rfl, rfl, rfl, sint (wrap_nat k (by simp at hn; omega)), trivial⟩⟩
      rw [take_snoc r k hlt]
      simp only [List.map_append, List.map_cons, List.map_nil]
    · have hk' : k = r.length := by simp at h; omega
      subst hk'
      rw [List.take_length]
      refine PFun.call hpl ?_
      exact fin1 rfl
theorem parse30_c (s : Str) (hs : s.length ≤ 900000) : PFun Tryz.prog 9 [sv' s] [] (.tup [(parseV s).1.v, iv (parseV s).2]) [] := by
  have out : ∀ {x : Vd × Int}, parseV s = x → V.tup [x.1.v, iv x.2] = V.tup [(parseV s).1.v, iv (parseV s).2] := fun h => by rw [h]
  have hl : ∀ w ∈ Lib.split s [32], w.length ≤ 1048576 := fun w hw => by
    have := split_len hw
    omega
  have hsp := split_c s [32] (by omega) (by decide)
  have hput := put30_c (guessV s) (guess_ok s hs)
  have pv : parseV s = if putV (guessV s) = (s, 0) then (guessV s, 0) else (.zero, 2) := rfl
  have hrj := rejected_c s hs
  have gv : guessV s = match Lib.split s [32] with
    | [a, b, c] => if a = wErr then ⟨1, numS b, numS c, 0, [], 0, .zero⟩ else rejS s
    | [a, b] => if a = wAcc then ⟨2, 0, 0, numS b, [], 0, .zero⟩ else if a = wUnk then ⟨4, 0, 0, numS b, [], 0, .zero⟩ else rejS s
    | _ => rejS s := rfl
  have hne : Lib.split s [32] ≠ [] := by
    unfold Lib.split
    cases Lib.count s [32] with
    | zero => rw [Lib.splitK]; simp
    | succ k => rw [Lib.splitK]; split <;> simp
  generalize Lib.split s [32] = ws at hsp hl gv hne
  refine fn_sem pok 75 0 Tryz.func9 (by kernel_rfl) rfl rfl rfl rfl ?_
  refine SWp.go pok (by kernel_rfl) ?_
  refine PFun.call hsp ?_
  match ws, hl, hne with
  | [], _, hne => exact absurd rfl hne
  | a :: r, hl, _ =>
    by_cases aErr : a = wErr
    · subst aErr
      match r, hl, gv with
      | [], hl, gv =>
        have e : guessV s = rejS s := by rw [gv]
        refine PIdx.map (x := wErr) (i := 0) rfl ?_
        refine PIdx.map (x := wErr) (i := 0) rfl ?_
        refine PIdx.map (x := wErr) (i := 0) rfl ?_
        refine PFun.call hrj ?_
        rw [e] at hput pv
        refine PFun.call hput ?_
        refine brP_split (fun k1 => ?_) (fun k1 => ?_)
        · refine fin1 (out (x := (.zero, 2)) ?_)
          rw [pv, if_neg]; intro k; rw [k] at k1; simp at k1
        refine brP_split (fun k2 => ?_) (fun k2 => ?_)
        · refine fin1 (out (x := (.zero, 2)) ?_)
          rw [pv, if_neg]; intro k; rw [k] at k2; simp at k2
        · exact fin1 (out (x := (_, 0)) (pv.trans (if_pos (Prod.ext (by simpa using k2) (by simpa using k1)))))
      | [b], hl, gv =>
        have e : guessV s = rejS s := by rw [gv]; dsimp only; rw [if_neg (by decide), if_neg (by decide)]
        refine PIdx.map (x := wErr) (i := 0) rfl ?_
        refine PIdx.map (x := wErr) (i := 0) rfl ?_
        refine PIdx.map (x := wErr) (i := 0) rfl ?_
        refine PFun.call hrj ?_
        rw [e] at hput pv
        refine PFun.call hput ?_
        refine brP_split (fun k1 => ?_) (fun k1 => ?_)
        · refine fin1 (out (x := (.zero, 2)) ?_)
          rw [pv, if_neg]; intro k; rw [k] at k1; simp at k1
        refine brP_split (fun k2 => ?_) (fun k2 => ?_)
        · refine fin1 (out (x := (.zero, 2)) ?_)
          rw [pv, if_neg]; intro k; rw [k] at k2; simp at k2
        · exact fin1 (out (x := (_, 0)) (pv.trans (if_pos (Prod.ext (by simpa using k2) (by simpa using k1)))))
      | [b, c], hl, gv =>
        have e : guessV s = ⟨1, numS b, numS c, 0, [], 0, .zero⟩ := by rw [gv]; dsimp only; rw [if_pos rfl]
        refine PIdx.map (x := wErr) (i := 0) rfl ?_
        refine PIdx.map (x := b) (i := 1) rfl ?_
        refine ⟨_, _, number30_c b (hl b (by simp)), ?_⟩
        refine PIdx.map (x := c) (i := 2) rfl ?_
        refine ⟨_, _, number30_c c (hl c (by simp)), ?_⟩
        rw [e] at hput pv
        refine PFun.call hput ?_
        refine brP_split (fun k1 => ?_) (fun k1 => ?_)
        · refine fin1 (out (x := (.zero, 2)) ?_)
          rw [pv, if_neg]; intro k; rw [k] at k1; simp at k1
        refine brP_split (fun k2 => ?_) (fun k2 => ?_)
        · refine fin1 (out (x := (.zero, 2)) ?_)
          rw [pv, if_neg]; intro k; rw [k] at k2; simp at k2
        · exact fin1 (out (x := (_, 0)) (pv.trans (if_pos (Prod.ext (by simpa using k2) (by simpa using k1)))))
      | b :: c :: d :: r, hl, gv =>
        have e : guessV s = rejS s := by rw [gv]
        refine PIdx.map (x := wErr) (i := 0) rfl ?_
        refine PIdx.map (x := wErr) (i := 0) rfl ?_
        refine PIdx.map (x := wErr) (i := 0) rfl ?_
        refine PFun.call hrj ?_
        rw [e] at hput pv
        refine PFun.call hput ?_
        refine brP_split (fun k1 => ?_) (fun k1 => ?_)
        · refine fin1 (out (x := (.zero, 2)) ?_)
          rw [pv, if_neg]; intro k; rw [k] at k1; simp at k1
        refine brP_split (fun k2 => ?_) (fun k2 => ?_)
        · refine fin1 (out (x := (.zero, 2)) ?_)
          rw [pv, if_neg]; intro k; rw [k] at k2; simp at k2
        · exact fin1 (out (x := (_, 0)) (pv.trans (if_pos (Prod.ext (by simpa using k2) (by simpa using k1)))))
    by_cases aAcc : a = wAcc
    · subst aAcc
      match r, hl, gv with
      | [], hl, gv =>
        have e : guessV s = rejS s := by rw [gv]
        refine PIdx.map (x := wAcc) (i := 0) rfl ?_
        refine PIdx.map (x := wAcc) (i := 0) rfl ?_
        refine PIdx.map (x := wAcc) (i := 0) rfl ?_
        refine PFun.call hrj ?_
        rw [e] at hput pv
        refine PFun.call hput ?_
        refine brP_split (fun k1 => ?_) (fun k1 => ?_)
        · refine fin1 (out (x := (.zero, 2)) ?_)
          rw [pv, if_neg]; intro k; rw [k] at k1; simp at k1
        refine brP_split (fun k2 => ?_) (fun k2 => ?_)
        · refine fin1 (out (x := (.zero, 2)) ?_)
          rw [pv, if_neg]; intro k; rw [k] at k2; simp at k2
        · exact fin1 (out (x := (_, 0)) (pv.trans (if_pos (Prod.ext (by simpa using k2) (by simpa using k1)))))
      | [b], hl, gv =>
        have e : guessV s = ⟨2, 0, 0, numS b, [], 0, .zero⟩ := by rw [gv]; dsimp only; rw [if_pos rfl]
        refine PIdx.map (x := wAcc) (i := 0) rfl ?_
        refine PIdx.map (x := wAcc) (i := 0) rfl ?_
        refine PIdx.map (x := b) (i := 1) rfl ?_
        refine PFun.call (number30_c b (hl b (by simp))) ?_
        rw [e] at hput pv
        refine PFun.call hput ?_
        refine brP_split (fun k1 => ?_) (fun k1 => ?_)
        · refine fin1 (out (x := (.zero, 2)) ?_)
          rw [pv, if_neg]; intro k; rw [k] at k1; simp at k1
        refine brP_split (fun k2 => ?_) (fun k2 => ?_)
        · refine fin1 (out (x := (.zero, 2)) ?_)
          rw [pv, if_neg]; intro k; rw [k] at k2; simp at k2
        · exact fin1 (out (x := (_, 0)) (pv.trans (if_pos (Prod.ext (by simpa using k2) (by simpa using k1)))))
      | [b, c], hl, gv =>
        have e : guessV s = rejS s := by rw [gv]; dsimp only; rw [if_neg (by decide)]
        refine PIdx.map (x := wAcc) (i := 0) rfl ?_
        refine PIdx.map (x := wAcc) (i := 0) rfl ?_
        refine PIdx.map (x := wAcc) (i := 0) rfl ?_
        refine PFun.call hrj ?_
        rw [e] at hput pv
        refine PFun.call hput ?_
        refine brP_split (fun k1 => ?_) (fun k1 => ?_)
        · refine fin1 (out (x := (.zero, 2)) ?_)
          rw [pv, if_neg]; intro k; rw [k] at k1; simp at k1
        refine brP_split (fun k2 => ?_) (fun k2 => ?_)
        · refine fin1 (out (x := (.zero, 2)) ?_)
          rw [pv, if_neg]; intro k; rw [k] at k2; simp at k2
        · exact fin1 (out (x := (_, 0)) (pv.trans (if_pos (Prod.ext (by simpa using k2) (by simpa using k1)))))
      | b :: c :: d :: r, hl, gv =>
        have e : guessV s = rejS s := by rw [gv]
        refine PIdx.map (x := wAcc) (i := 0) rfl ?_
        refine PIdx.map (x := wAcc) (i := 0) rfl ?_
        refine PIdx.map (x := wAcc) (i := 0) rfl ?_
        refine PFun.call hrj ?_
        rw [e] at hput pv
        refine PFun.call hput ?_
        refine brP_split (fun k1 => ?_) (fun k1 => ?_)
        · refine fin1 (out (x := (.zero, 2)) ?_)
          rw [pv, if_neg]; intro k; rw [k] at k1; simp at k1
        refine brP_split (fun k2 => ?_) (fun k2 => ?_)
        · refine fin1 (out (x := (.zero, 2)) ?_)
          rw [pv, if_neg]; intro k; rw [k] at k2; simp at k2
        · exact fin1 (out (x := (_, 0)) (pv.trans (if_pos (Prod.ext (by simpa using k2) (by simpa using k1)))))
    by_cases aUnk : a = wUnk
    · subst aUnk
      match r, hl, gv with
      | [], hl, gv =>
        have e : guessV s = rejS s := by rw [gv]
        refine PIdx.map (x := wUnk) (i := 0) rfl ?_
        refine PIdx.map (x := wUnk) (i := 0) rfl ?_
        refine PIdx.map (x := wUnk) (i := 0) rfl ?_
        refine PFun.call hrj ?_
        rw [e] at hput pv
        refine PFun.call hput ?_
        refine brP_split (fun k1 => ?_) (fun k1 => ?_)
        · refine fin1 (out (x := (.zero, 2)) ?_)
          rw [pv, if_neg]; intro k; rw [k] at k1; simp at k1
        refine brP_split (fun k2 => ?_) (fun k2 => ?_)
        · refine fin1 (out (x := (.zero, 2)) ?_)
          rw [pv, if_neg]; intro k; rw [k] at k2; simp at k2
        · exact fin1 (out (x := (_, 0)) (pv.trans (if_pos (Prod.ext (by simpa using k2) (by simpa using k1)))))
      | [b], hl, gv =>
        have e : guessV s = ⟨4, 0, 0, numS b, [], 0, .zero⟩ := by rw [gv]; dsimp only; rw [if_neg (by decide), if_pos rfl]
        refine PIdx.map (x := wUnk) (i := 0) rfl ?_
        refine PIdx.map (x := wUnk) (i := 0) rfl ?_
        refine PIdx.map (x := wUnk) (i := 0) rfl ?_
        refine PIdx.map (x := b) (i := 1) rfl ?_
        refine PFun.call (number30_c b (hl b (by simp))) ?_
        rw [e] at hput pv
        refine PFun.call hput ?_
        refine brP_split (fun k1 => ?_) (fun k1 => ?_)
        · refine fin1 (out (x := (.zero, 2)) ?_)
          rw [pv, if_neg]; intro k; rw [k] at k1; simp at k1
        refine brP_split (fun k2 => ?_) (fun k2 => ?_)
        · refine fin1 (out (x := (.zero, 2)) ?_)
          rw [pv, if_neg]; intro k; rw [k] at k2; simp at k2
        · exact fin1 (out (x := (_, 0)) (pv.trans (if_pos (Prod.ext (by simpa using k2) (by simpa using k1)))))
      | [b, c], hl, gv =>
        have e : guessV s = rejS s := by rw [gv]; dsimp only; rw [if_neg (by decide)]
        refine PIdx.map (x := wUnk) (i := 0) rfl ?_
        refine PIdx.map (x := wUnk) (i := 0) rfl ?_
        refine PIdx.map (x := wUnk) (i := 0) rfl ?_
        refine PFun.call hrj ?_
        rw [e] at hput pv
        refine PFun.call hput ?_
        refine brP_split (fun k1 => ?_) (fun k1 => ?_)
        · refine fin1 (out (x := (.zero, 2)) ?_)
          rw [pv, if_neg]; intro k; rw [k] at k1; simp at k1
        refine brP_split (fun k2 => ?_) (fun k2 => ?_)
        · refine fin1 (out (x := (.zero, 2)) ?_)
          rw [pv, if_neg]; intro k; rw [k] at k2; simp at k2
        · exact fin1 (out (x := (_, 0)) (pv.trans (if_pos (Prod.ext (by simpa using k2) (by simpa using k1)))))
      | b :: c :: d :: r, hl, gv =>
        have e : guessV s = rejS s := by rw [gv]
        refine PIdx.map (x := wUnk) (i := 0) rfl ?_
        refine PIdx.map (x := wUnk) (i := 0) rfl ?_
        refine PIdx.map (x := wUnk) (i := 0) rfl ?_
        refine PFun.call hrj ?_
        rw [e] at hput pv
        refine PFun.call hput ?_
        refine brP_split (fun k1 => ?_) (fun k1 => ?_)
        · refine fin1 (out (x := (.zero, 2)) ?_)
          rw [pv, if_neg]; intro k; rw [k] at k1; simp at k1
        refine brP_split (fun k2 => ?_) (fun k2 => ?_)
        · refine fin1 (out (x := (.zero, 2)) ?_)
          rw [pv, if_neg]; intro k; rw [k] at k2; simp at k2
        · exact fin1 (out (x := (_, 0)) (pv.trans (if_pos (Prod.ext (by simpa using k2) (by simpa using k1)))))
    have e : guessV s = rejS s := by
      rw [gv]
      split
      · rename_i he; injection he with he _; rw [if_neg (by rw [← he]; exact aErr)]
      · rename_i he; injection he with he _; rw [if_neg (by rw [← he]; exact aAcc), if_neg (by rw [← he]; exact aUnk)]
      · rfl
    refine PIdx.map (x := a) (i := 0) rfl ?_
    refine brP_false (beq_eq_false_iff_ne.2 aErr) ?_
    refine PIdx.map (x := a) (i := 0) rfl ?_
    refine brP_false (beq_eq_false_iff_ne.2 aAcc) ?_
    refine PIdx.map (x := a) (i := 0) rfl ?_
    refine brP_false (beq_eq_false_iff_ne.2 aUnk) ?_
    refine PFun.call hrj ?_
    rw [e] at hput pv
    refine PFun.call hput ?_
    refine brP_split (fun k1 => ?_) (fun k1 => ?_)
    · refine fin1 (out (x := (.zero, 2)) ?_)
      rw [pv, if_neg]; intro k; rw [k] at k1; simp at k1
    refine brP_split (fun k2 => ?_) (fun k2 => ?_)
    · refine fin1 (out (x := (.zero, 2)) ?_)
      rw [pv, if_neg]; intro k; rw [k] at k2; simp at k2
    · exact fin1 (out (x := (_, 0)) (pv.trans (if_pos (Prod.ext (by simpa using k2) (by simpa using k1)))))
end Go.Proofs.YtblnfodnkacbbaaGreatDoor.Q

namespace Go.Proofs.YtblnfodnkacbbaaGreatDoor.Q
open Go.RowKit
variable [Amb]
theorem samePicks_c (l : List Pk) (hl : l.length ≤ 1073741824) : PFun Tryz.prog 53 [.d (.sl (l.map Pk.e)), .d (.sl (l.map Pk.e))] [] (.d (.bool true)) [] := by
  refine fn_sem pok 26 0 Tryz.func53 (by kernel_rfl) rfl rfl rfl rfl ?_
  refine SWp.go pok (by kernel_rfl) ?_
  refine brP_false (by simp) ?_
  refine SWp.loop (fun k : Nat => k ≤ l.length) (fun k => ([(0, .d (.sl (l.map Pk.e))), (1, .d (.sl (l.map Pk.e))), (5, iv k)], [])) (fun k => l.length - k) 0 (Nat.zero_le _) (Le.same ⟨rfl, rfl, rfl, trivial⟩) (fun k hk => ?_)
  refine SWp.go pok (by kernel_rfl) ?_
  refine brP_split (fun h => ?_) (fun h => ?_)
  · have hlt : k < l.length := by simpa using h
    refine PIdx.map (get_at hlt) ?_
    refine PIdx.map (get_at hlt) ?_
    refine brP_false (by simp) ?_
    exact ⟨k + 1, hlt, by omega, Le.same ⟨rfl, rfl, sint (wrap_nat k (by omega)), trivial⟩⟩
  · exact fin1 rfl
theorem sameL_c (l : Ls) (h1 : l.stem.length ≤ 1073741824) (h2 : l.loop.length ≤ 1073741824) : PFun Tryz.prog 32 [l.v, l.v] [] (.d (.bool true)) [] := by
  refine fn_sem pok 24 0 Tryz.func32 (by kernel_rfl) rfl rfl rfl rfl ?_
  refine SWp.go pok (by kernel_rfl) ?_
  refine PFun.call (samePicks_c l.stem h1) ?_
  refine PFun.call (samePicks_c l.loop h2) ?_
  refine brP_true (by simp) ?_
  exact fin1 rfl
theorem same30_c (v : Vd) (hv : v.ok) : PFun Tryz.prog 12 [v.v, v.v] [] (.d (.bool true)) [] := by
  have hc := hv.2.2.2.2.2.2.2.1
  refine fn_sem pok 71 0 Tryz.func12 (by kernel_rfl) rfl rfl rfl rfl ?_
  refine SWp.go pok (by kernel_rfl) ?_
  refine brP_false (by simp) ?_
  refine SWp.loop (fun k : Nat => k ≤ v.counts.length) (fun k => ([(2, .ptr 0 0), (3, .ptr 1 0), (5, iv k)], [.box v.cells, .box v.cells])) (fun k => v.counts.length - k) 0 (Nat.zero_le _) (Le.same ⟨rfl, rfl, rfl, trivial⟩) (fun k hk => ?_)
  refine SWp.go pok (by kernel_rfl) ?_
  refine brP_split (fun h => ?_) (fun h => ?_)
  · have hlt : k < v.counts.length := by simpa using h
    refine PIdx.map (get_at hlt) ?_
    refine PIdx.map (get_at hlt) ?_
    refine brP_false (by simp) ?_
    exact ⟨k + 1, hlt, by omega, Le.same ⟨rfl, rfl, sint (wrap_nat k (by omega)), trivial⟩⟩
  · refine brP_true (by simp) ?_
    refine brP_true (by simp) ?_
    refine brP_true (by simp) ?_
    refine brP_true (by simp) ?_
    refine brP_true (by simp) ?_
    refine PFun.call (sameL_c v.way hv.2.2.2.2.2.2.2.2.1 hv.2.2.2.2.2.2.2.2.2) ?_
    exact fin1 rfl
theorem small30_c (v : Vd) : PFun Tryz.prog 5 [v.v] [] (.d (.bool (decide (v.counts.length ≤ 20) && decide (v.way.stem.length ≤ 100) && decide (v.way.loop.length ≤ 100)))) [] := by
  have c1 : decide (v.counts.length ≤ 20) = decide (((v.counts.map icell).length : Int) ≤ 20) := by rw [List.length_map, Bool.eq_iff_iff, decide_eq_true_eq, decide_eq_true_eq]; omega
  have c2 : decide (v.way.stem.length ≤ 100) = decide (((v.way.stem.map Pk.e).length : Int) ≤ 100) := by rw [List.length_map, Bool.eq_iff_iff, decide_eq_true_eq, decide_eq_true_eq]; omega
  have c3 : decide (v.way.loop.length ≤ 100) = decide (((v.way.loop.map Pk.e).length : Int) ≤ 100) := by rw [List.length_map, Bool.eq_iff_iff, decide_eq_true_eq, decide_eq_true_eq]; omega
  rw [c1, c2, c3]
  refine fn_sem pok 21 0 Tryz.func5 (by kernel_rfl) rfl rfl rfl rfl ?_
  refine SWp.go pok (by kernel_rfl) ?_
  refine brP_split (fun h1 => ?_) (fun h1 => ?_)
  · refine brP_split (fun h2 => ?_) (fun h2 => ?_)
    · refine brP_split (fun h3 => ?_) (fun h3 => ?_)
      all_goals
        refine fin1 (dbool ?_)
        rw [h1, h2, h3]; rfl
    · refine fin1 (dbool ?_)
      rw [h1, h2]; rfl
  · refine fin1 (dbool ?_)
    rw [h1]; rfl
theorem num30_c (n : Int) : PFun Tryz.prog 11 [iv n] [] (iv n) [] := by
  refine fn_sem pok 4 0 Tryz.func11 (by kernel_rfl) rfl rfl rfl rfl ?_
  refine SWp.go pok (by kernel_rfl) ?_
  exact fin1 rfl
theorem putPs_len {l : List Pk} (h : ∀ p ∈ l, p.ok) : (putPs l).1.length ≤ l.length * 42 := by
  unfold putPs
  split
  · simp
  · split
    · have := join_short [32] 41 (l.map fun p => (pickS p).1) (fun w hw => by
        obtain ⟨p, hp, rfl⟩ := List.mem_map.1 hw
        exact pickS_short (h p hp))
      rw [List.length_map] at this
      simpa using this
    · simp
theorem putL_len {l : Ls} (h : l.ok) (h1 : l.stem.length ≤ 100) (h2 : l.loop.length ≤ 100) : (putL l).1.length ≤ 30000 := by
  have k1 := putPs_len h.1
  have k2 := putPs_len h.2.1
  have k3 := itoa_short h.2.2
  unfold putL
  repeat' split
  all_goals first | (simp; done) | skip
  have := join_short bar 9000 [(putPs l.stem).1, (putPs l.loop).1, Lib.itoa l.thread] (fun w hw => by
    simp only [List.mem_cons, List.not_mem_nil, or_false] at hw
    rcases hw with rfl | rfl | rfl <;> omega)
  have e : ([(putPs l.stem).1, (putPs l.loop).1, Lib.itoa l.thread]).length = 3 := rfl
  have e2 : bar.length = 3 := rfl
  rw [e, e2] at this
  dsimp only
  omega
theorem putV_len {v : Vd} (hv : v.ok) (h0 : v.counts.length ≤ 20) (h1 : v.way.stem.length ≤ 100) (h2 : v.way.loop.length ≤ 100) : (putV v).1.length ≤ 900000 := by
  have k := putL_len hv.2.2.2.2.2.2.1 h1 h2
  have i1 := itoa_short hv.2.1
  have i2 := itoa_short hv.2.2.1
  have i3 := itoa_short hv.2.2.2.1
  have i4 := itoa_short hv.2.2.2.2.2.1
  have e1 : ([32] : Str).length = 1 := rfl
  have lw : wErr.length = 5 ∧ wAcc.length = 6 ∧ wUnk.length = 7 ∧ wRej.length = 6 := ⟨rfl, rfl, rfl, rfl⟩
  unfold putV
  split
  · simp
  split
  · have := join_short [32] 30 [wErr, Lib.itoa v.err, Lib.itoa v.at'] (fun w hw => by
      simp only [List.mem_cons, List.not_mem_nil, or_false] at hw
      rcases hw with rfl | rfl | rfl <;> omega)
    simp only [List.length_cons, List.length_nil] at this
    dsimp only; omega
  split
  · have := join_short [32] 30 [wAcc, Lib.itoa v.seen] (fun w hw => by
      simp only [List.mem_cons, List.not_mem_nil, or_false] at hw
      rcases hw with rfl | rfl <;> omega)
    simp only [List.length_cons, List.length_nil] at this
    dsimp only; omega
  split
  · have := join_short [32] 30 [wUnk, Lib.itoa v.seen] (fun w hw => by
      simp only [List.mem_cons, List.not_mem_nil, or_false] at hw
      rcases hw with rfl | rfl <;> omega)
    simp only [List.length_cons, List.length_nil] at this
    dsimp only; omega
  split
  · simp
  · have := join_short [32] 30000 (rejWords v (putL v.way).1) (fun w hw => by
      unfold rejWords at hw
      simp only [List.mem_append, List.mem_cons, List.not_mem_nil, or_false, List.mem_map] at hw
      rcases hw with ((rfl | rfl) | ⟨n, hn, rfl⟩) | (rfl | rfl | rfl | rfl)
      · omega
      · omega
      · have := itoa_short (hv.2.2.2.2.1 n hn); omega
      · decide
      · omega
      · decide
      · exact k)
    have e : (rejWords v (putL v.way).1).length = v.counts.length + 6 := by unfold rejWords; simp
    rw [e, e1] at this
    have h26 : (v.counts.length + 6) * (1 + 30000) ≤ 26 * 30001 := Nat.mul_le_mul (by omega) (by omega)
    dsimp only; omega
theorem zero_ok : Vd.zero.ok := by
  have z : R64 0 := by unfold R64; omega
  exact ⟨z, z, z, z, (fun n h => absurd h (by simp [Vd.zero])), z, ⟨(fun p h => absurd h (by simp [Vd.zero, Ls.zero])), (fun p h => absurd h (by simp [Vd.zero, Ls.zero])), z⟩, by decide, by decide, by decide⟩
/-- What a reader of a row knows of a verdict. -/
def Vd.num (v : Vd) : Prop := R64 v.kind ∧ R64 v.err ∧ R64 v.at' ∧ R64 v.seen ∧ (∀ n ∈ v.counts, R64 n) ∧ R64 v.what ∧ v.way.ok
theorem back_c (live : PFun Tryz.prog 6 [] [] (.d (.bool true)) []) [Vars] (v : Vd) (hv : v.num) (s : Str) : PFun Tryz.prog 4 [v.v, sv' s] [] (.d (.bool true)) [] := by
  refine fn_sem pok 74 0 Tryz.func4 (by kernel_rfl) rfl rfl rfl rfl ?_
  refine SWp.go pok (by kernel_rfl) ?_
  refine PFun.call (small30_c v) ?_
  refine brP_split (fun h1 => ?_) (fun h1 => ?_)
  · refine PFun.call live ?_
    exact fin1 rfl
  have h1 : v.counts.length ≤ 20 ∧ v.way.stem.length ≤ 100 ∧ v.way.loop.length ≤ 100 := by
    simp at h1; exact ⟨h1.1.1, h1.1.2, h1.2⟩
  refine brP_split (fun h2 => ?_) (fun h2 => ?_)
  · refine PFun.call live ?_
    exact fin1 rfl
  have h2 : s.length ≤ 2000 := by simp at h2; omega
  have hok : v.ok := ⟨hv.1, hv.2.1, hv.2.2.1, hv.2.2.2.1, hv.2.2.2.2.1, hv.2.2.2.2.2.1, hv.2.2.2.2.2.2, by omega, by omega, by omega⟩
  have hs9 : s.length ≤ 900000 := by omega
  have hp2 := parse30_c s hs9
  refine PFun.call (put30_c v hok) ?_
  refine PFun.call (num30_c _) ?_
  refine brP_split (fun h3 => ?_) (fun h3 => ?_)
  · have h3 : (putV v).2 = 0 := by simpa using h3
    have hp := parse30_c (putV v).1 (putV_len hok h1.1 h1.2.1 h1.2.2)
    rw [parseV_put h3] at hp
    refine PFun.call hp ?_
    refine PFun.call (num30_c _) ?_
    refine PFun.call (same30_c v hok) ?_
    obtain hz | hz := parseV_cases s
    · obtain ⟨w, hz1, hz2⟩ := hz
      have hw : w.ok := by
        have := guess_ok s hs9
        have e : parseV s = if putV (guessV s) = (s, 0) then (guessV s, 0) else (.zero, 2) := rfl
        rw [e] at hz1
        split at hz1
        · injection hz1 with hz1; rw [← hz1]; exact this
        · injection hz1 with _ hz1; cases hz1
      have hq := put30_c w hw
      rw [hz1] at hp2
      rw [hz2] at hq
      refine PFun.call hp2 ?_
      refine PFun.call (num30_c _) ?_
      refine PFun.call hq ?_
      refine PFun.call (num30_c _) ?_
      refine brP_true (by simp) ?_
      refine PFun.call live ?_
      exact fin1 rfl
    · rw [hz] at hp2
      refine PFun.call hp2 ?_
      refine PFun.call (num30_c _) ?_
      refine PFun.call (same30_c .zero zero_ok) ?_
      refine PFun.call live ?_
      exact fin1 rfl
  · obtain hz | hz := parseV_cases s
    · obtain ⟨w, hz1, hz2⟩ := hz
      have hw : w.ok := by
        have := guess_ok s hs9
        have e : parseV s = if putV (guessV s) = (s, 0) then (guessV s, 0) else (.zero, 2) := rfl
        rw [e] at hz1
        split at hz1
        · injection hz1 with hz1; rw [← hz1]; exact this
        · injection hz1 with _ hz1; cases hz1
      have hq := put30_c w hw
      rw [hz1] at hp2
      rw [hz2] at hq
      refine PFun.call hp2 ?_
      refine PFun.call (num30_c _) ?_
      refine PFun.call hq ?_
      refine PFun.call (num30_c _) ?_
      refine brP_true (by simp) ?_
      refine PFun.call live ?_
      exact fin1 rfl
    · rw [hz] at hp2
      refine PFun.call hp2 ?_
      refine PFun.call (num30_c _) ?_
      refine PFun.call (same30_c .zero zero_ok) ?_
      refine PFun.call live ?_
      exact fin1 rfl
end Go.Proofs.YtblnfodnkacbbaaGreatDoor.Q
