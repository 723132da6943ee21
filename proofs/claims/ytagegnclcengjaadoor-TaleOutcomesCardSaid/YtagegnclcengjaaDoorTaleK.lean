/- Library calls of tale.Parse: strings.Split, TrimSuffix, strconv.Atoi, out of the shelf's contracts; tale.parsed as a contract. By an AI agent. -/
import Derived.Test.YtagegnclcengjaaDoorTaleJ
import Derived.Shelf.LaysC
import Derived.Shelf.Strings.Split
import Derived.Shelf.Strings.Prefix
import Derived.Shelf.Strconv.AtoiErr
import Derived.Lib.SmallJoins
import Derived.SevenTiedAt
import Derived.Stop.Joined
namespace Go.Proofs.YtagegnclcengjaaDoor
open Go Go.Rx Go.RowKit Go.Proofs
set_option linter.unusedVariables false
set_option linter.unusedSimpArgs false
set_option maxRecDepth 100000
namespace words
def laysAtoi_ren : Go.Shelf.Ren := ⟨fun | 172 => 33 | 244 => 41 | 245 => 42 | 247 => 52 | 279 => 53 | 280 => 54 | 281 => 55 | 282 => 56 | 287 => 67 | 316 => 68 | 171 => 22 | 205 => 69 | 321 => 76 | 322 => 77 | 243 => 31 | 246 => 40 | 283 => 48 | 284 => 49 | 285 => 50 | 286 => 51 | 129 => 63 | 317 => 62 | 318 => 64 | 319 => 65 | 320 => 66 | 337 => 74 | 338 => 75 | n => n, fun | 9 => 9 | 3 => 3 | 75 => 41 | 76 => 59 | 4 => 4 | 5 => 5 | 167 => 74 | 37 => 36 | 0 => 0 | 85 => 75 | 2 => 2 | 168 => 77 | 53 => 58 | 175 => 90 | 46 => 43 | 210 => 93 | 127 => 55 | 145 => 99 | 143 => 97 | 21 => 21 | 171 => 69 | 173 => 72 | 212 => 86 | 51 => 87 | 20 => 20 | 213 => 88 | 232 => 106 | 233 => 107 | 80 => 44 | n => n, fun | 15 => 2 | 16 => 3 | 17 => 1 | 18 => 6 | 19 => 7 | n => n⟩
theorem laysAtoi : Go.Proofs.Lays.n172 Tryd.prog laysAtoi_ren where
  mixed := by kernel_rfl
  f129 := Tryd.func63.trans (congrArg some (by kernel_rfl))
  f171 := Tryd.func22.trans (congrArg some (by kernel_rfl))
  f172 := Tryd.func33.trans (congrArg some (by kernel_rfl))
  f205 := Tryd.func69.trans (congrArg some (by kernel_rfl))
  f243 := Tryd.func31.trans (congrArg some (by kernel_rfl))
  f244 := Tryd.func41.trans (congrArg some (by kernel_rfl))
  f245 := Tryd.func42.trans (congrArg some (by kernel_rfl))
  f246 := Tryd.func40.trans (congrArg some (by kernel_rfl))
  f247 := Tryd.func52.trans (congrArg some (by kernel_rfl))
  f279 := Tryd.func53.trans (congrArg some (by kernel_rfl))
  f280 := Tryd.func54.trans (congrArg some (by kernel_rfl))
  f281 := Tryd.func55.trans (congrArg some (by kernel_rfl))
  f282 := Tryd.func56.trans (congrArg some (by kernel_rfl))
  f283 := Tryd.func48.trans (congrArg some (by kernel_rfl))
  f284 := Tryd.func49.trans (congrArg some (by kernel_rfl))
  f285 := Tryd.func50.trans (congrArg some (by kernel_rfl))
  f286 := Tryd.func51.trans (congrArg some (by kernel_rfl))
  f287 := Tryd.func67.trans (congrArg some (by kernel_rfl))
  f316 := Tryd.func68.trans (congrArg some (by kernel_rfl))
  f317 := Tryd.func62.trans (congrArg some (by kernel_rfl))
  f318 := Tryd.func64.trans (congrArg some (by kernel_rfl))
  f319 := Tryd.func65.trans (congrArg some (by kernel_rfl))
  f320 := Tryd.func66.trans (congrArg some (by kernel_rfl))
  f321 := Tryd.func76.trans (congrArg some (by kernel_rfl))
  f322 := Tryd.func77.trans (congrArg some (by kernel_rfl))
  f337 := Tryd.func74.trans (congrArg some (by kernel_rfl))
  f338 := Tryd.func75.trans (congrArg some (by kernel_rfl))
  t0 := Tryd.underlying0
  a0 := Tryd.isAgg0
  z0 := Tryd.sizeOf0
  v0 := Tryd.zeroValue0
  t2 := Tryd.underlying2
  a2 := Tryd.isAgg2
  z2 := Tryd.sizeOf2
  v2 := Tryd.zeroValue2
  t3 := Tryd.underlying3
  a3 := Tryd.isAgg3
  z3 := Tryd.sizeOf3
  v3 := Tryd.zeroValue3
  t4 := Tryd.underlying4
  a4 := Tryd.isAgg4
  z4 := Tryd.sizeOf4
  v4 := Tryd.zeroValue4
  t5 := Tryd.underlying5
  a5 := Tryd.isAgg5
  z5 := Tryd.sizeOf5
  v5 := Tryd.zeroValue5
  t9 := Tryd.underlying9
  a9 := Tryd.isAgg9
  z9 := Tryd.sizeOf9
  v9 := Tryd.zeroValue9
  t20 := Tryd.underlying20
  a20 := Tryd.isAgg20
  z20 := Tryd.sizeOf20
  v20 := Tryd.zeroValue20
  t21 := Tryd.underlying21
  a21 := Tryd.isAgg21
  z21 := Tryd.sizeOf21
  v21 := Tryd.zeroValue21
  t37 := Tryd.underlying36
  a37 := Tryd.isAgg36
  z37 := Tryd.sizeOf36
  v37 := Tryd.zeroValue36
  t46 := Tryd.underlying43
  a46 := Tryd.isAgg43
  z46 := Tryd.sizeOf43
  v46 := Tryd.zeroValue43
  t51 := Tryd.underlying87
  a51 := Tryd.isAgg87
  z51 := Tryd.sizeOf87
  v51 := Tryd.zeroValue87
  t53 := Tryd.underlying58
  a53 := Tryd.isAgg58
  z53 := Tryd.sizeOf58
  v53 := Tryd.zeroValue58
  t75 := Tryd.underlying41
  a75 := Tryd.isAgg41
  z75 := Tryd.sizeOf41
  v75 := Tryd.zeroValue41
  t76 := Tryd.underlying59
  a76 := Tryd.isAgg59
  z76 := Tryd.sizeOf59
  v76 := Tryd.zeroValue59
  t85 := Tryd.underlying75
  a85 := Tryd.isAgg75
  z85 := Tryd.sizeOf75
  v85 := Tryd.zeroValue75
  t127 := Tryd.underlying55
  a127 := Tryd.isAgg55
  z127 := Tryd.sizeOf55
  v127 := Tryd.zeroValue55
  t143 := Tryd.underlying97
  a143 := Tryd.isAgg97
  z143 := Tryd.sizeOf97
  v143 := Tryd.zeroValue97
  t145 := Tryd.underlying99
  a145 := Tryd.isAgg99
  z145 := Tryd.sizeOf99
  v145 := Tryd.zeroValue99
  t167 := Tryd.underlying74
  a167 := Tryd.isAgg74
  z167 := Tryd.sizeOf74
  v167 := Tryd.zeroValue74
  t168 := Tryd.underlying77
  a168 := Tryd.isAgg77
  z168 := Tryd.sizeOf77
  v168 := Tryd.zeroValue77
  t171 := Tryd.underlying69
  a171 := Tryd.isAgg69
  z171 := Tryd.sizeOf69
  v171 := Tryd.zeroValue69
  t173 := Tryd.underlying72
  a173 := Tryd.isAgg72
  z173 := Tryd.sizeOf72
  v173 := Tryd.zeroValue72
  t175 := Tryd.underlying90
  a175 := Tryd.isAgg90
  z175 := Tryd.sizeOf90
  v175 := Tryd.zeroValue90
  t210 := Tryd.underlying93
  a210 := Tryd.isAgg93
  z210 := Tryd.sizeOf93
  v210 := Tryd.zeroValue93
  t212 := Tryd.underlying86
  a212 := Tryd.isAgg86
  z212 := Tryd.sizeOf86
  v212 := Tryd.zeroValue86
  t213 := Tryd.underlying88
  a213 := Tryd.isAgg88
  z213 := Tryd.sizeOf88
  t232 := Tryd.underlying106
  a232 := Tryd.isAgg106
  z232 := Tryd.sizeOf106
  v232 := Tryd.zeroValue106
  t233 := Tryd.underlying107
  a233 := Tryd.isAgg107
  z233 := Tryd.sizeOf107
  v233 := Tryd.zeroValue107
  g15 := by kernel_rfl
  g16 := by kernel_rfl
  g17 := by kernel_rfl
  g18 := by kernel_rfl
  g19 := by kernel_rfl
def laysAtoiC_ren : Go.Shelf.Ren := ⟨fun | 172 => 33 | 244 => 41 | 245 => 42 | 247 => 52 | 279 => 53 | 280 => 54 | 281 => 55 | 282 => 56 | 287 => 67 | 316 => 68 | 171 => 22 | 205 => 69 | 321 => 76 | 322 => 77 | 243 => 31 | 246 => 40 | 283 => 48 | 284 => 49 | 285 => 50 | 286 => 51 | 129 => 63 | 317 => 62 | 318 => 64 | 319 => 65 | 320 => 66 | 337 => 74 | 338 => 75 | n => n, fun | 9 => 9 | 3 => 3 | 75 => 41 | 76 => 59 | 4 => 4 | 5 => 5 | 167 => 74 | 37 => 36 | 0 => 0 | 85 => 75 | 2 => 2 | 168 => 77 | 53 => 58 | 175 => 90 | 46 => 43 | 210 => 93 | 127 => 55 | 145 => 99 | 143 => 97 | 21 => 21 | 171 => 69 | 173 => 72 | 212 => 86 | 51 => 87 | 20 => 20 | 213 => 88 | 232 => 106 | 233 => 107 | 80 => 44 | n => n, fun | 15 => 2 | 16 => 3 | 17 => 1 | 18 => 6 | 19 => 7 | n => n⟩
theorem laysAtoiC : Go.Proofs.LaysC.n172 Tryd.prog laysAtoiC_ren where
  mixed := by kernel_rfl
  f129 := Tryd.func63.trans (congrArg some (by kernel_rfl))
  f171 := Tryd.func22.trans (congrArg some (by kernel_rfl))
  f172 := Tryd.func33.trans (congrArg some (by kernel_rfl))
  f205 := Tryd.func69.trans (congrArg some (by kernel_rfl))
  f243 := Tryd.func31.trans (congrArg some (by kernel_rfl))
  f244 := Tryd.func41.trans (congrArg some (by kernel_rfl))
  f245 := Tryd.func42.trans (congrArg some (by kernel_rfl))
  f246 := Tryd.func40.trans (congrArg some (by kernel_rfl))
  f247 := Tryd.func52.trans (congrArg some (by kernel_rfl))
  f279 := Tryd.func53.trans (congrArg some (by kernel_rfl))
  f280 := Tryd.func54.trans (congrArg some (by kernel_rfl))
  f281 := Tryd.func55.trans (congrArg some (by kernel_rfl))
  f282 := Tryd.func56.trans (congrArg some (by kernel_rfl))
  f283 := Tryd.func48.trans (congrArg some (by kernel_rfl))
  f284 := Tryd.func49.trans (congrArg some (by kernel_rfl))
  f285 := Tryd.func50.trans (congrArg some (by kernel_rfl))
  f286 := Tryd.func51.trans (congrArg some (by kernel_rfl))
  f287 := Tryd.func67.trans (congrArg some (by kernel_rfl))
  f316 := Tryd.func68.trans (congrArg some (by kernel_rfl))
  f317 := Tryd.func62.trans (congrArg some (by kernel_rfl))
  f318 := Tryd.func64.trans (congrArg some (by kernel_rfl))
  f319 := Tryd.func65.trans (congrArg some (by kernel_rfl))
  f320 := Tryd.func66.trans (congrArg some (by kernel_rfl))
  f321 := Tryd.func76.trans (congrArg some (by kernel_rfl))
  f322 := Tryd.func77.trans (congrArg some (by kernel_rfl))
  f337 := Tryd.func74.trans (congrArg some (by kernel_rfl))
  f338 := Tryd.func75.trans (congrArg some (by kernel_rfl))
  t0 := Tryd.underlying0
  a0 := Tryd.isAgg0
  z0 := Tryd.sizeOf0
  v0 := Tryd.zeroValue0
  t2 := Tryd.underlying2
  a2 := Tryd.isAgg2
  z2 := Tryd.sizeOf2
  v2 := Tryd.zeroValue2
  t3 := Tryd.underlying3
  a3 := Tryd.isAgg3
  z3 := Tryd.sizeOf3
  v3 := Tryd.zeroValue3
  t4 := Tryd.underlying4
  a4 := Tryd.isAgg4
  z4 := Tryd.sizeOf4
  v4 := Tryd.zeroValue4
  t5 := Tryd.underlying5
  a5 := Tryd.isAgg5
  z5 := Tryd.sizeOf5
  v5 := Tryd.zeroValue5
  t9 := Tryd.underlying9
  a9 := Tryd.isAgg9
  z9 := Tryd.sizeOf9
  v9 := Tryd.zeroValue9
  t20 := Tryd.underlying20
  a20 := Tryd.isAgg20
  z20 := Tryd.sizeOf20
  v20 := Tryd.zeroValue20
  t21 := Tryd.underlying21
  a21 := Tryd.isAgg21
  z21 := Tryd.sizeOf21
  v21 := Tryd.zeroValue21
  t37 := Tryd.underlying36
  a37 := Tryd.isAgg36
  z37 := Tryd.sizeOf36
  v37 := Tryd.zeroValue36
  t46 := Tryd.underlying43
  a46 := Tryd.isAgg43
  z46 := Tryd.sizeOf43
  v46 := Tryd.zeroValue43
  t51 := Tryd.underlying87
  a51 := Tryd.isAgg87
  z51 := Tryd.sizeOf87
  v51 := Tryd.zeroValue87
  t53 := Tryd.underlying58
  a53 := Tryd.isAgg58
  z53 := Tryd.sizeOf58
  v53 := Tryd.zeroValue58
  t75 := Tryd.underlying41
  a75 := Tryd.isAgg41
  z75 := Tryd.sizeOf41
  v75 := Tryd.zeroValue41
  t76 := Tryd.underlying59
  a76 := Tryd.isAgg59
  z76 := Tryd.sizeOf59
  v76 := Tryd.zeroValue59
  t85 := Tryd.underlying75
  a85 := Tryd.isAgg75
  z85 := Tryd.sizeOf75
  v85 := Tryd.zeroValue75
  t127 := Tryd.underlying55
  a127 := Tryd.isAgg55
  z127 := Tryd.sizeOf55
  v127 := Tryd.zeroValue55
  t143 := Tryd.underlying97
  a143 := Tryd.isAgg97
  z143 := Tryd.sizeOf97
  v143 := Tryd.zeroValue97
  t145 := Tryd.underlying99
  a145 := Tryd.isAgg99
  z145 := Tryd.sizeOf99
  v145 := Tryd.zeroValue99
  t167 := Tryd.underlying74
  a167 := Tryd.isAgg74
  z167 := Tryd.sizeOf74
  v167 := Tryd.zeroValue74
  t168 := Tryd.underlying77
  a168 := Tryd.isAgg77
  z168 := Tryd.sizeOf77
  v168 := Tryd.zeroValue77
  t171 := Tryd.underlying69
  a171 := Tryd.isAgg69
  z171 := Tryd.sizeOf69
  v171 := Tryd.zeroValue69
  t173 := Tryd.underlying72
  a173 := Tryd.isAgg72
  z173 := Tryd.sizeOf72
  v173 := Tryd.zeroValue72
  t175 := Tryd.underlying90
  a175 := Tryd.isAgg90
  z175 := Tryd.sizeOf90
  v175 := Tryd.zeroValue90
  t210 := Tryd.underlying93
  a210 := Tryd.isAgg93
  z210 := Tryd.sizeOf93
  v210 := Tryd.zeroValue93
  t212 := Tryd.underlying86
  a212 := Tryd.isAgg86
  z212 := Tryd.sizeOf86
  v212 := Tryd.zeroValue86
  t213 := Tryd.underlying88
  a213 := Tryd.isAgg88
  z213 := Tryd.sizeOf88
  t232 := Tryd.underlying106
  a232 := Tryd.isAgg106
  z232 := Tryd.sizeOf106
  v232 := Tryd.zeroValue106
  t233 := Tryd.underlying107
  a233 := Tryd.isAgg107
  z233 := Tryd.sizeOf107
  v233 := Tryd.zeroValue107
  g15 := by kernel_rfl
  g16 := by kernel_rfl
  g17 := by kernel_rfl
  g18 := by kernel_rfl
  g19 := by kernel_rfl
  t80 := Tryd.underlying44
  a80 := Tryd.isAgg44
  z80 := Tryd.sizeOf44
  v80 := Tryd.zeroValue44
  i0 := by kernel_rfl
  i2 := by kernel_rfl
  i3 := by kernel_rfl
  i4 := by kernel_rfl
  i5 := by kernel_rfl
  i9 := by kernel_rfl
  i20 := by kernel_rfl
  i21 := by kernel_rfl
  i37 := by kernel_rfl
  i46 := by kernel_rfl
  i51 := by kernel_rfl
  i53 := by kernel_rfl
  i75 := by kernel_rfl
  i76 := by kernel_rfl
  i80 := by kernel_rfl
  i85 := by kernel_rfl
  i127 := by kernel_rfl
  i143 := by kernel_rfl
  i145 := by kernel_rfl
  i167 := by kernel_rfl
  i168 := by kernel_rfl
  i171 := by kernel_rfl
  i173 := by kernel_rfl
  i175 := by kernel_rfl
  i210 := by kernel_rfl
  i212 := by kernel_rfl
  i232 := by kernel_rfl
  i233 := by kernel_rfl
  m15 := by kernel_rfl
  m16 := by kernel_rfl
  m17 := by kernel_rfl
  m18 := by kernel_rfl
  m19 := by kernel_rfl
  c0 := by kernel_rfl
  c2 := by kernel_rfl
  c3 := by kernel_rfl
  c4 := by kernel_rfl
  c5 := by kernel_rfl
  c9 := by kernel_rfl
  c20 := by kernel_rfl
  c21 := by kernel_rfl
  c37 := by kernel_rfl
  c46 := by kernel_rfl
  c51 := by kernel_rfl
  c53 := by kernel_rfl
  c75 := by kernel_rfl
  c76 := by kernel_rfl
  c80 := by kernel_rfl
  c85 := by kernel_rfl
  c127 := by kernel_rfl
  c143 := by kernel_rfl
  c145 := by kernel_rfl
  c167 := by kernel_rfl
  c168 := by kernel_rfl
  c171 := by kernel_rfl
  c173 := by kernel_rfl
  c175 := by kernel_rfl
  c210 := by kernel_rfl
  c212 := by kernel_rfl
  c213 := by kernel_rfl
  c232 := by kernel_rfl
  c233 := by kernel_rfl
def laysSplit_ren : Go.Shelf.Ren := ⟨fun | 146 => 26 | 221 => 34 | 268 => 43 | 138 => 44 | 143 => 45 | 195 => 57 | 197 => 58 | 218 => 59 | 219 => 60 | 260 => 70 | 217 => 29 | 225 => 71 | 224 => 72 | 267 => 73 | 266 => 37 | 314 => 78 | n => n, fun | 9 => 9 | 31 => 52 | 3 => 3 | 4 => 4 | 0 => 0 | 105 => 81 | 21 => 21 | 5 => 5 | 46 => 43 | 119 => 100 | 139 => 103 | 138 => 102 | 146 => 104 | 51 => 87 | n => n, fun | 1 => 0 | 3 => 4 | 4 => 5 | n => n⟩
theorem laysSplit : Go.Proofs.LaysM.n146 Tryd.prog laysSplit_ren where
  mixed := by kernel_rfl
  f138 := Tryd.func44.trans (congrArg some (by kernel_rfl))
  f143 := Tryd.func45.trans (congrArg some (by kernel_rfl))
  f146 := Tryd.func26.trans (congrArg some (by kernel_rfl))
  f195 := Tryd.func57.trans (congrArg some (by kernel_rfl))
  f197 := Tryd.func58.trans (congrArg some (by kernel_rfl))
  f217 := Tryd.func29.trans (congrArg some (by kernel_rfl))
  f218 := Tryd.func59.trans (congrArg some (by kernel_rfl))
  f219 := Tryd.func60.trans (congrArg some (by kernel_rfl))
  f221 := Tryd.func34.trans (congrArg some (by kernel_rfl))
  f224 := Tryd.func72.trans (congrArg some (by kernel_rfl))
  f225 := Tryd.func71.trans (congrArg some (by kernel_rfl))
  f260 := Tryd.func70.trans (congrArg some (by kernel_rfl))
  f266 := Tryd.func37.trans (congrArg some (by kernel_rfl))
  f267 := Tryd.func73.trans (congrArg some (by kernel_rfl))
  f268 := Tryd.func43.trans (congrArg some (by kernel_rfl))
  f314 := Tryd.func78.trans (congrArg some (by kernel_rfl))
  t0 := Tryd.underlying0
  a0 := Tryd.isAgg0
  z0 := Tryd.sizeOf0
  v0 := Tryd.zeroValue0
  t3 := Tryd.underlying3
  a3 := Tryd.isAgg3
  z3 := Tryd.sizeOf3
  v3 := Tryd.zeroValue3
  t4 := Tryd.underlying4
  a4 := Tryd.isAgg4
  z4 := Tryd.sizeOf4
  v4 := Tryd.zeroValue4
  t5 := Tryd.underlying5
  a5 := Tryd.isAgg5
  z5 := Tryd.sizeOf5
  v5 := Tryd.zeroValue5
  t9 := Tryd.underlying9
  a9 := Tryd.isAgg9
  z9 := Tryd.sizeOf9
  v9 := Tryd.zeroValue9
  t21 := Tryd.underlying21
  a21 := Tryd.isAgg21
  z21 := Tryd.sizeOf21
  v21 := Tryd.zeroValue21
  t31 := Tryd.underlying52
  a31 := Tryd.isAgg52
  z31 := Tryd.sizeOf52
  v31 := Tryd.zeroValue52
  t46 := Tryd.underlying43
  a46 := Tryd.isAgg43
  z46 := Tryd.sizeOf43
  v46 := Tryd.zeroValue43
  t51 := Tryd.underlying87
  a51 := Tryd.isAgg87
  z51 := Tryd.sizeOf87
  v51 := Tryd.zeroValue87
  t105 := Tryd.underlying81
  a105 := Tryd.isAgg81
  z105 := Tryd.sizeOf81
  v105 := Tryd.zeroValue81
  t119 := Tryd.underlying100
  a119 := Tryd.isAgg100
  z119 := Tryd.sizeOf100
  t138 := Tryd.underlying102
  a138 := Tryd.isAgg102
  z138 := Tryd.sizeOf102
  v138 := Tryd.zeroValue102
  t139 := Tryd.underlying103
  a139 := Tryd.isAgg103
  z139 := Tryd.sizeOf103
  v139 := Tryd.zeroValue103
  t146 := Tryd.underlying104
  a146 := Tryd.isAgg104
  z146 := Tryd.sizeOf104
  v146 := Tryd.zeroValue104
  g1 := by kernel_rfl
  g3 := by kernel_rfl
  g4 := by kernel_rfl
  i0 := by kernel_rfl
  i3 := by kernel_rfl
  i4 := by kernel_rfl
  i5 := by kernel_rfl
  i9 := by kernel_rfl
  i21 := by kernel_rfl
  i31 := by kernel_rfl
  i46 := by kernel_rfl
  i51 := by kernel_rfl
  i105 := by kernel_rfl
  i138 := by kernel_rfl
  i139 := by kernel_rfl
  i146 := by kernel_rfl
  m1 := by kernel_rfl
  s1_3 := fun w h => Go.Proofs.cell_of_shapedOpen_int (zero := #[.int .i64 0]) (t := 3) h (of_decide_eq_true (by kernel_rfl)) (by kernel_rfl) rfl (by kernel_rfl) (by kernel_rfl) Tryd.underlying3
  m3 := by kernel_rfl
  m4 := by kernel_rfl
def laysTrim_ren : Go.Shelf.Ren := ⟨fun | 102 => 27 | 209 => 35 | 207 => 46 | n => n, fun | 9 => 9 | 4 => 4 | 3 => 3 | n => n, fun | n => n⟩
theorem laysTrim : Go.Proofs.Lays.n102 Tryd.prog laysTrim_ren where
  mixed := by kernel_rfl
  f102 := Tryd.func27.trans (congrArg some (by kernel_rfl))
  f207 := Tryd.func46.trans (congrArg some (by kernel_rfl))
  f209 := Tryd.func35.trans (congrArg some (by kernel_rfl))
  t3 := Tryd.underlying3
  a3 := Tryd.isAgg3
  z3 := Tryd.sizeOf3
  v3 := Tryd.zeroValue3
  t4 := Tryd.underlying4
  a4 := Tryd.isAgg4
  z4 := Tryd.sizeOf4
  v4 := Tryd.zeroValue4
  t9 := Tryd.underlying9
  a9 := Tryd.isAgg9
  z9 := Tryd.sizeOf9
  v9 := Tryd.zeroValue9

/-- What is used of package variables: the table of powers, the error's value, the longest needle. -/
structure WX (w : World) : Prop where
  pow : PowTab w
  err : ∃ ev, w.cell? ⟨2, 0, none⟩ = some ev ∧ (ev = .nilIface ∨ ∃ te pe, ev = .iface te pe)
  max : ∃ m : Int, w.cell? ⟨0, 0, none⟩ = some (.int .i64 m)
theorem cell_keep {w0 w : World} {g : Nat} {v : Value} (h : w0.cell? ⟨g, 0, none⟩ = some v) (hk : ∀ k, k < w0.heap.size → w.heap[k]? = w0.heap[k]?) : w.cell? ⟨g, 0, none⟩ = some v := by
  have hlt : g < w0.heap.size := by
    rcases Nat.lt_or_ge g w0.heap.size with h' | h'
    · exact h'
    · unfold World.cell? at h
      simp only at h
      rw [Array.getElem?_eq_none h'] at h
      cases h
  unfold World.cell? at h ⊢
  simp only at h ⊢
  rw [hk g hlt]; exact h
theorem WX.keep {w0 w : World} (h : WX w0) (hk : ∀ k, k < w0.heap.size → w.heap[k]? = w0.heap[k]?) : WX w := by
  obtain ⟨h1, ⟨ev, h2, h3⟩, ⟨m, h4⟩⟩ := h
  exact ⟨tab_keep h1 hk, ⟨ev, cell_keep h2 hk, h3⟩, ⟨m, cell_keep h4 hk⟩⟩
theorem atoi_some (n : Int) : SumOK Tryd.prog WX (33, atoiSum (some n)) := by
  refine ⟨⟨_, Tryd.func33, by kernel_rfl, by kernel_rfl⟩, fun args x s s' hx ob => ?_⟩
  dsimp only [atoiSum] at hx
  split at hx
  · rename_i b
    cases hx
    refine ⟨ob.1, fun ν M w0 w a hr hX ha => ?_⟩
    obtain ⟨y1, ys, rfl, h1, ha⟩ := ha.cons_inv
    obtain rfl := ha.nil_inv
    obtain rfl := VR.v_iff.1 h1
    refine (Any.strconv_Atoi laysAtoi b n ob.2.2 ob.2.1 w).mono fun e w' ⟨he, t, hw⟩ => ?_
    subst hw
    exact ⟨Go.Joins.below_bytesWorld _ w _ t (Nat.le_refl _), _, he, .same (SH.owe_same _ _) (VR.v_iff.2 rfl)⟩
  · cases hx
theorem atoi_none : SumOK Tryd.prog WX (33, atoiSum none) := by
  refine ⟨⟨_, Tryd.func33, by kernel_rfl, by kernel_rfl⟩, fun args x s s' hx ob => ?_⟩
  dsimp only [atoiSum] at hx
  split at hx
  · rename_i b
    cases hx
    refine ⟨ob.1, fun ν M w0 w a hr hX ha => ?_⟩
    obtain ⟨y1, ys, rfl, h1, ha⟩ := ha.cons_inv
    obtain rfl := ha.nil_inv
    obtain rfl := VR.v_iff.1 h1
    obtain ⟨ev, hv, hev⟩ := hX.err
    refine (Any.strconv_Atoi_err laysAtoiC b ob.2.2 ob.2.1 ev w hv hev).mono fun e w' ⟨N, he, _, _, hB⟩ => ⟨hB, _, he, .same (SH.owe_same _ _) (VR.tup_iff.2 ⟨[_, _], rfl, VRL.cons (by rw [VR]; trivial) (VRL.cons (VR.iface_iff.2 ⟨_, rfl, by rw [VR]; trivial⟩) VRL.nil)⟩)⟩
  · cases hx
theorem KQ {n : Option Int} {M : Own} {w0 : World} (hM : ∀ b, ¬ M b) (h : WX w0) : Facts (EQ' n) M w0 :=
  Facts.of' (Checked.mixed Tryd.checked) (by kernel_rfl) (ExtOK.of extL rfl extRows) (SumsOK.list (X := WX) (l := lQ n) rfl (fun r hr => by
    simp only [lQ, List.mem_cons, List.not_mem_nil, or_false] at hr
    rcases hr with rfl | rfl
    · exact SumOK.pure (r := (8, unPS2)) ⟨un_ok2.1, fun args v p h hp w _ => un_ok2.2 args v p h hp w trivial⟩
    · cases n with
      | none => exact atoi_none
      | some n => exact atoi_some n) fun ν s w hr _ => h.keep fun k hk => hr.frame k hk (hM k)) (fun f g h => by cases h)
/-- tale.parsed of told words. -/
theorem parsed_calls {ws : List ByteArray} {w : World} {bk c : Nat} {cs : Array Value} {e : TypeId} {fz : Nat × Nat} (hw : WX w) (ho : w.heap[bk]? = some (.cells cs e fz)) (hc : ∀ (k : Nat) (y : Value), (ws.map Value.string)[k]? = some y → cs[k]? = some y)
    (hle : ws.length ≤ c) (hne : ws ≠ []) (hs : ∀ b ∈ ws, b.size ≤ 1000000000) : Calls Tryd.prog 25 #[.slice (some ⟨bk, 0, none⟩) ws.length c] w fun e w' => Below w.heap.size w w' ∧ ∃ v, e = .returned v ∧ v = pVal ws := by
  have hlk : ∀ (ν : Val) (i : Nat), OR ν i (.look (wsC ws)) (.cells cs e fz) := fun ν i => ⟨ws.map Value.string, cs, e, fz, rfl, by have := VRL.lits ν (ws.map Value.string); rwa [List.map_map] at this, hc⟩
  have main : ∀ n : Option Int, (∀ cs0, Goes (EQ' n) (layOwn [(bk, 0)] ([.look (wsC ws)].map fun o => (o, false))) w cs0 25 (fun e w' => Below w.heap.size w w' ∧ ∃ v, e = .returned v ∧ v = pVal ws) (layVal [(bk, 0)]) (entQ n ws ws.length c)) →
      Calls Tryd.prog 25 #[.slice (some ⟨bk, 0, none⟩) ws.length c] w fun e w' => Below w.heap.size w w' ∧ ∃ v, e = .returned v ∧ v = pVal ws := fun n hgo =>
    calls_of_read (E := EQ' n) (args := [.sl 0 0 ws.length (some c)]) (a := [.slice (some ⟨bk, 0, none⟩) ws.length c]) (Q := fun v => v = pVal ws) rfl (d := 6) (l := [(bk, 0)]) (os := [.look (wsC ws)]) rfl (by simp) (by simp) (fun i o b' c' h1 h2 => by
      match i with
      | 0 =>
        simp only [List.getElem?_cons_zero, Option.some.injEq, Prod.mk.injEq] at h1 h2
        obtain ⟨rfl, rfl⟩ := h2
        subst h1
        exact ⟨_, ho, hlk _ _⟩
      | i + 1 => simp at h1) rfl (S0 := entQ n ws ws.length c) (by kernel_rfl) (VRL.cons (VR.sl_iff.2 ⟨(bk, 0), rfl, hle, rfl⟩) VRL.nil) hgo
  have hM : ∀ b, ¬ (layOwn [(bk, 0)] ([.look (wsC ws)].map fun o => (o, false))) b := fun b => layOwn_none (os := [_])
  have hend : ∀ (ν' : Val) (M1 : Own) (w1 : World) (s' : SH) (w' : World), (layVal [(bk, 0)]).Le ν' → Base (layOwn [(bk, 0)] ([.look (wsC ws)].map fun o => (o, false))) w M1 w1 → HR ν' M1 w1 s' w' → (Below w.heap.size w w' ∧ ∃ v, Ending.returned (pVal ws) = .returned v ∧ v = pVal ws) := fun ν' M1 w1 s' w' _ hB hr => ⟨below_of hM hB hr, _, rfl, rfl⟩
  clear hlk hc ho
  cases ws with
  | nil => exact absurd rfl hne
  | cons a t =>
  cases t with
  | nil => exact main none fun cs0 => goQ1 (KQ hM hw) hend
  | cons b r =>
    have hb : b.size ≤ 1000000000 := hs b (List.mem_cons_of_mem _ List.mem_cons_self)
    by_cases hl3 : (a :: b :: r).length = 3
    · cases r with
      | nil => cases hl3
      | cons d q =>
      cases q with
      | cons _ _ => simp only [List.length_cons] at hl3; omega
      | nil =>
        by_cases hd : d.size ≤ 9
        · cases hat : Lib.atoi d.data.toList with
          | none => exact main none fun cs0 => goQb hd hat (KQ hM hw) hb hend
          | some n =>
            by_cases hn : 0 ≤ n
            · exact main (some n) fun cs0 => goQc hd hat hn (KQ hM hw) hb hend
            · exact main (some n) fun cs0 => goQd hd hat hn (KQ hM hw) hb hend
        · exact main none fun cs0 => goQa hd (KQ hM hw) hb hend
    · exact main none fun cs0 => goQm (l := (a :: b :: r).length) rfl hl3 (KQ hM hw) hb hend
end words
end Go.Proofs.YtagegnclcengjaaDoor
namespace Go.Proofs.YtagegnclcengjaaDoor
open Go Go.Rx Go.RowKit Go.Proofs
set_option linter.unusedVariables false
set_option linter.unusedSimpArgs false
set_option maxRecDepth 100000
namespace words
def trimB (s p : ByteArray) : ByteArray := ⟨(Lib.trimSuffix s.data.toList p.data.toList).toArray⟩
def trimPS : PS := fun args => match args with | [.string s, .string p] => some (.string (trimB s p), s.size ≤ 1000000000) | _ => none
/-- The words are these. -/
structure WordsAre (ws : List ByteArray) (s sep : ByteArray) : Prop where
  size : s.size ≤ 1000000000
  one : 1 ≤ sep.size
  eq : Lib.splitB sep 0 (Lib.countB s sep) s = ws
def pP (ws : List ByteArray) : ByteArray := match ws with | _ :: b :: _ => unS b.data.toList | _ => ⟨#[]⟩
def pW (ws : List ByteArray) : Int := match ws with | a :: _ :: _ => nameI a.data.toList | _ => 0
def pC (ws : List ByteArray) : Int := match ws with | [_, _, d] => codeI d.data.toList | _ => 0
theorem pVal_eq (ws : List ByteArray) : pVal ws = .agg #[.string (pP ws), .int .i64 (pW ws), .int .i64 (pC ws)] := by
  match ws with
  | [] => rfl
  | [_] => rfl
  | [_, _] => rfl
  | [_, _, _] => rfl
  | _ :: _ :: _ :: _ :: _ => rfl
def parsedSum (ws : List ByteArray) : Sum := fun args s => match args with
  | [.sl i 0 len (some c)] => match s.look i with
    | some (.row xs _ _ _, _) => some (.v (.agg #[.string (pP ws), .int .i64 (pW ws), .int .i64 (pC ws)]), s.owe (xs = wsC ws ∧ len = ws.length ∧ ws ≠ [] ∧ ∀ b ∈ ws, b.size ≤ 1000000000))
    | _ => none
  | _ => none
def lP (ws : List ByteArray) : List (FuncId × Sum) := [(27, pureSum trimPS), (26, wordsSum 9 ws (WordsAre ws)), (25, parsedSum ws), (10, pureSum outPS)]
noncomputable def EPa (ws : List ByteArray) : Env := { EP [] [] with sums := fun f => (lP ws).lookup f }
theorem trim_ok : PureOK Tryd.prog WX (27, trimPS) := by
  refine ⟨⟨_, Tryd.func27, by kernel_rfl, by kernel_rfl⟩, fun args v p h hp w hX => ?_⟩
  dsimp only [trimPS] at h
  split at h
  · rename_i s q
    cases h
    exact (Any.strings_TrimSuffix laysTrim s q w (by omega)).mono fun e w' ⟨he, hw⟩ => ⟨hw ▸ Below.refl _ _, he⟩
  · cases h
theorem split_ok (ws : List ByteArray) : SumOK Tryd.prog WX (26, wordsSum 9 ws (WordsAre ws)) :=
  SumOK.words ⟨_, Tryd.func26, by kernel_rfl, by kernel_rfl⟩ fun s sep w hp hX => by
    obtain ⟨h1, h2, h3⟩ := hp
    obtain ⟨m, hm⟩ := hX.max
    have hlen := Lib.splitB_all sep h2 0 _ s rfl
    rw [h3] at hlen
    refine (Any.strings_Split { laysSplit with } laysSplit.i9 s sep m w (by omega) hm h2).mono fun e w' ⟨he, hw⟩ => ?_
    rw [h3] at hw
    rw [← hlen] at he
    exact ⟨he, hw⟩
theorem parsed_ok (ws : List ByteArray) : SumOK Tryd.prog WX (25, parsedSum ws) := by
  refine ⟨⟨_, Tryd.func25, by kernel_rfl, by kernel_rfl⟩, fun args x s s' hx ob => ?_⟩
  dsimp only [parsedSum] at hx
  split at hx
  · rename_i i len c
    split at hx
    · rename_i xs el fz ext mk hl
      cases hx
      refine ⟨ob.1, fun ν M w0 w a hr hX ha => ?_⟩
      obtain ⟨h1, h2, h3, h4⟩ := ob.2
      subst h1 h2
      obtain ⟨y1, ys, rfl, e1, ha⟩ := ha.cons_inv
      obtain rfl := ha.nil_inv
      obtain ⟨b, hb1, hle, rfl⟩ := VR.sl_iff.1 e1
      obtain ⟨_, _, b', o, hb2, ho, hor, _⟩ := hr.look hl
      rw [hb1] at hb2; cases hb2
      obtain ⟨zs, rest, rfl, hz, _⟩ := hor
      have hzs : zs = ws.map Value.string := by
        have h5 := VRL.lits ν (ws.map Value.string)
        rw [List.map_map] at h5
        have hsol : ∀ {l : List ByteArray} {u v : List Value}, VRL ν (wsC l) u → VRL ν (wsC l) v → u = v := by
          intro l
          induction l with
          | nil => intro u v hu hv; rw [VRL.nil_inv hu, VRL.nil_inv hv]
          | cons z l ih =>
            intro u v hu hv
            obtain ⟨p, ps, rfl, q1, q2⟩ := VRL.cons_inv (x := .v (.string z)) (xs := wsC l) hu
            obtain ⟨p', ps', rfl, q3, q4⟩ := VRL.cons_inv (x := .v (.string z)) (xs := wsC l) hv
            rw [VR.v_iff.1 q1, VR.v_iff.1 q3, ih q2 q4]
        exact hsol hz h5
      subst hzs
      refine (parsed_calls (ws := ws) (c := c) hX ho (fun k y hk => by simpa using getElem?_append_left' hk) hle h3 h4).mono fun e w' ⟨hB, v, he, hv⟩ => ?_
      exact ⟨hB, v, he, .same (SH.owe_same _ _) (VR.v_iff.2 (by rw [hv, pVal_eq]))⟩
    · cases hx
  · cases hx
theorem KP {ws : List ByteArray} {M : Own} {w0 : World} (hM : ∀ b, ¬ M b) (h : WX w0) : Facts (EPa ws) M w0 :=
  Facts.of' (Checked.mixed Tryd.checked) (by kernel_rfl) (ExtOK.of extL rfl extRows) (SumsOK.list (X := WX) (l := lP ws) rfl (fun r hr => by
    simp only [lP, List.mem_cons, List.not_mem_nil, or_false] at hr
    rcases hr with rfl | rfl | rfl | rfl
    · exact SumOK.pure (r := (27, trimPS)) trim_ok
    · exact split_ok ws
    · exact parsed_ok ws
    · exact SumOK.pure (r := (10, outPS)) ⟨tout_ok.1, fun args v p h hp w hX => tout_ok.2 args v p h hp w hX.pow⟩) fun ν s w hr _ => h.keep fun k hk => hr.frame k hk (hM k)) (fun f g h => by cases h)
theorem y0 (ws : List ByteArray) (t : ByteArray) (v : Value) : endsV (EPa ws) 12 900 (entE (EPa ws) 12 [.v (.string t)]) (ff [3, 4, 5, 6, 7, 8, 9] true) v = [
  Value.tuple
   {
   toList :=
   [Value.agg
   {
   toList :=
   [Value.string { data := { toList := [] : Array UInt8 } : ByteArray }, Value.int IntKind.i64 (0 : Int),
   Value.int IntKind.i64 (0 : Int)] :
   Array Value },
   Value.int IntKind.i64 (10 : Int)] :
   Array Value } =
   v,
  true = true,
  (t.toList == { data := { toList := [] : Array UInt8 } : ByteArray }.toList) = true,
  (t.toList == { data := { toList := [] : Array UInt8 } : ByteArray }.toList) = true,
  (t.toList == { data := { toList := [] : Array UInt8 } : ByteArray }.toList) = true,
  (t.toList == { data := { toList := [] : Array UInt8 } : ByteArray }.toList) = true,
  (t.toList == { data := { toList := [] : Array UInt8 } : ByteArray }.toList) = true,
  List.map (fun b => SV.v (Value.string b)) ws = wsC ws ∧
   ws.length = ws.length ∧ ws ≠ [] ∧ ∀ (b : ByteArray), b ∈ ws → b.size ≤ (1000000000 : Nat),
  WordsAre ws (trimB t { data := { toList := [(10 : UInt8)] : Array UInt8 } : ByteArray })
   { data := { toList := [(32 : UInt8)] : Array UInt8 } : ByteArray },
  t.size.le (1000000000 : Nat)] := by kernel_rfl
theorem y1 (ws : List ByteArray) (t : ByteArray) (v : Value) : endsV (EPa ws) 12 900 (entE (EPa ws) 12 [.v (.string t)]) (ff [3, 4] false ++ ff [6, 7, 8] false ++ ff [9] true) v = [
  Value.tuple
   {
   toList :=
   [Value.agg
   {
   toList :=
   [Value.string { data := { toList := [] : Array UInt8 } : ByteArray }, Value.int IntKind.i64 (0 : Int),
   Value.int IntKind.i64 (0 : Int)] :
   Array Value },
   Value.int IntKind.i64 (10 : Int)] :
   Array Value } =
   v,
  (!(outB (pP ws).data.toList (pW ws) (pC ws)).toList == t.toList) = true,
  (t.toList == { data := { toList := [] : Array UInt8 } : ByteArray }.toList) = false,
  (t.toList == { data := { toList := [] : Array UInt8 } : ByteArray }.toList) = false,
  (t.toList == { data := { toList := [] : Array UInt8 } : ByteArray }.toList) = false,
  (pP ws).size ≤ (1000000000 : Nat) ∧ (-9223372036854775808 : Int) ≤ pC ws ∧ pC ws ≤ (9223372036854775807 : Int),
  (t.toList == { data := { toList := [] : Array UInt8 } : ByteArray }.toList) = false,
  (t.toList == { data := { toList := [] : Array UInt8 } : ByteArray }.toList) = false,
  List.map (fun b => SV.v (Value.string b)) ws = wsC ws ∧
   ws.length = ws.length ∧ ws ≠ [] ∧ ∀ (b : ByteArray), b ∈ ws → b.size ≤ (1000000000 : Nat),
  WordsAre ws (trimB t { data := { toList := [(10 : UInt8)] : Array UInt8 } : ByteArray })
   { data := { toList := [(32 : UInt8)] : Array UInt8 } : ByteArray },
  t.size.le (1000000000 : Nat)] := by kernel_rfl
theorem y2 (ws : List ByteArray) (t : ByteArray) (v : Value) : endsV (EPa ws) 12 900 (entE (EPa ws) 12 [.v (.string t)]) (ff [3, 4] false ++ ff [6, 7, 8] false ++ ff [9] false) v = [
  Value.tuple
   {
   toList :=
   [Value.agg
   { toList := [Value.string (pP ws), Value.int IntKind.i64 (pW ws), Value.int IntKind.i64 (pC ws)] :
   Array Value },
   Value.int IntKind.i64 (0 : Int)] :
   Array Value } =
   v,
  (!(outB (pP ws).data.toList (pW ws) (pC ws)).toList == t.toList) = false,
  (t.toList == { data := { toList := [] : Array UInt8 } : ByteArray }.toList) = false,
  (t.toList == { data := { toList := [] : Array UInt8 } : ByteArray }.toList) = false,
  (t.toList == { data := { toList := [] : Array UInt8 } : ByteArray }.toList) = false,
  (pP ws).size ≤ (1000000000 : Nat) ∧ (-9223372036854775808 : Int) ≤ pC ws ∧ pC ws ≤ (9223372036854775807 : Int),
  (t.toList == { data := { toList := [] : Array UInt8 } : ByteArray }.toList) = false,
  (t.toList == { data := { toList := [] : Array UInt8 } : ByteArray }.toList) = false,
  List.map (fun b => SV.v (Value.string b)) ws = wsC ws ∧
   ws.length = ws.length ∧ ws ≠ [] ∧ ∀ (b : ByteArray), b ∈ ws → b.size ≤ (1000000000 : Nat),
  WordsAre ws (trimB t { data := { toList := [(10 : UInt8)] : Array UInt8 } : ByteArray })
   { data := { toList := [(32 : UInt8)] : Array UInt8 } : ByteArray },
  t.size.le (1000000000 : Nat)] := by kernel_rfl
end words
end Go.Proofs.YtagegnclcengjaaDoor
namespace Go.Proofs.YtagegnclcengjaaDoor
open Go Go.Rx Go.RowKit Go.Proofs
set_option linter.unusedVariables false
set_option linter.unusedSimpArgs false
set_option maxRecDepth 100000
namespace words
theorem trimB_size (t p : ByteArray) : (trimB t p).size ≤ t.size := by
  have e : (trimB t p).size = (Lib.trimSuffix t.data.toList p.data.toList).length := by simp [trimB, ByteArray.size]
  have e2 : t.data.toList.length = t.size := by simp
  rw [e]
  unfold Lib.trimSuffix
  split
  · rw [List.length_take]; omega
  · omega
theorem split_sizes (sep : ByteArray) : ∀ (k : Nat) (s b : ByteArray), b ∈ Lib.splitB sep 0 k s → b.size ≤ s.size
  | 0, s, b, h => by rw [Lib.splitB_zero, List.mem_singleton] at h; rw [h]; exact Nat.le_refl _
  | k + 1, s, b, h => by
    unfold Lib.splitB at h
    split at h
    · rw [List.mem_singleton] at h; rw [h]; exact Nat.le_refl _
    · rcases List.mem_cons.1 h with rfl | h
      · rw [ByteArray.size_extract]; omega
      · have := split_sizes sep k _ b h
        rw [ByteArray.size_extract] at this; omega
def nl1 : ByteArray := mkS [10]
def sp1 : ByteArray := mkS [32]
/-- A line's words. -/
def wsOf (t : ByteArray) : List ByteArray := Lib.splitB sp1 0 (Lib.countB (trimB t nl1) sp1) (trimB t nl1)
theorem wsOf_len (t : ByteArray) : (wsOf t).length = Lib.countB (trimB t nl1) sp1 + 1 := Lib.splitB_all sp1 (Nat.le_refl 1) 0 _ _ rfl
theorem wsOf_ne (t : ByteArray) : wsOf t ≠ [] := fun e => by have := wsOf_len t; rw [e] at this; simp at this
theorem wsOf_sizes {t b : ByteArray} (h : b ∈ wsOf t) : b.size ≤ t.size := Nat.le_trans (split_sizes sp1 _ _ b h) (trimB_size t nl1)
theorem path_ge (l : List UInt8) : l.length ≤ (pathL l).length := by
  induction l with
  | nil => simp
  | cons c l ih =>
    have := (escL_len c).1
    simp only [pathL, List.flatMap_cons, List.length_append, List.length_cons] at *
    omega
theorem unS_size (l : List UInt8) : (unS l).size ≤ l.length := by
  unfold unS
  split
  · rename_i h
    have h := of_decide_eq_true (show decide (l ≠ [] ∧ pathL (unL l) = l) = true from h)
    have := path_ge (unL l)
    rw [h.2] at this
    rw [mkS_size]; exact this
  · exact Nat.zero_le _
theorem pP_size (t : ByteArray) : (pP (wsOf t)).size ≤ t.size := by
  have h := fun b (hb : b ∈ wsOf t) => wsOf_sizes hb
  generalize wsOf t = ws at h
  match ws, h with
  | [], _ => exact Nat.zero_le _
  | [_], _ => exact Nat.zero_le _
  | _ :: b :: _, h =>
    have h1 := unS_size b.data.toList
    have h2 := h b (by simp)
    have h3 : b.data.toList.length = b.size := by simp
    show (unS b.data.toList).size ≤ t.size
    omega
theorem decNat_9 {r : List UInt8} {m : Nat} (h : Lib.decNat r = some m) (hl : r.length ≤ 9) : m ≤ 999999999 := by
  have h1 := Lib.decFrom_lt _ _ _ (Lib.decNat_some h).2
  have h2 : 10 ^ r.length ≤ 10 ^ 9 := Nat.pow_le_pow_right (by decide) hl
  have h3 : (10 : Nat) ^ 9 = 1000000000 := rfl
  omega
theorem codeI_in (d : List UInt8) : 0 ≤ codeI d ∧ codeI d ≤ 999999999 := by
  unfold codeI
  split
  · rename_i hl
    split
    · rename_i n hn
      split
      · rename_i h0
        refine ⟨h0, ?_⟩
        unfold Lib.atoi at hn
        split at hn
        · cases hn
        · rename_i b r
          simp only [List.length_cons] at hl
          split at hn
          · obtain ⟨m, hm, rfl⟩ := Option.map_eq_some_iff.1 hn
            have := decNat_9 hm (by omega); omega
          · split at hn
            · obtain ⟨m, hm, rfl⟩ := Option.map_eq_some_iff.1 hn
              have := decNat_9 hm (by omega); omega
            · obtain ⟨m, hm, rfl⟩ := Option.map_eq_some_iff.1 hn
              have := decNat_9 hm (by simp only [List.length_cons]; omega); omega
      · decide
    · decide
  · decide
theorem pC_in (ws : List ByteArray) : 0 ≤ pC ws ∧ pC ws ≤ 999999999 := by
  unfold pC
  split
  · exact codeI_in _
  · decide
/-- Is a line parsed? -/
def okT (t : ByteArray) : Bool := decide (t.data.toList ≠ [] ∧ (outB (pP (wsOf t)).data.toList (pW (wsOf t)) (pC (wsOf t))).data.toList = t.data.toList)
def qP (t : ByteArray) : ByteArray := if okT t = true then pP (wsOf t) else mkS []
def qW (t : ByteArray) : Int := if okT t = true then pW (wsOf t) else 0
def qC (t : ByteArray) : Int := if okT t = true then pC (wsOf t) else 0
def qE (t : ByteArray) : Int := if okT t = true then 0 else 10
def parsePS : PS := fun args => match args with | [.string t] => some (.tuple #[.agg #[.string (qP t), .int .i64 (qW t), .int .i64 (qC t)], .int .i64 (qE t)], t.size ≤ 1000000000) | _ => none
theorem parse_ok : PureOK Tryd.prog WX (12, parsePS) := by
  refine ⟨⟨_, Tryd.func12, by kernel_rfl, by kernel_rfl⟩, fun args v q h hp w hX => ?_⟩
  dsimp only [parsePS] at h
  split at h
  · rename_i t
    cases h
    refine (calls_bare (E := EPa (wsOf t)) rfl rfl (Q := fun v => v = .tuple #[.agg #[.string (qP t), .int .i64 (qW t), .int .i64 (qC t)], .int .i64 (qE t)]) (args := [.v (.string t)]) (a := [.string t]) w (S0 := entE (EPa (wsOf t)) 12 [.v (.string t)]) (by kernel_rfl) (VRL.cons (VR.v_iff.2 rfl) VRL.nil) fun cs0 => ?_).mono fun e w' ⟨h1, u, h2, h3⟩ => ⟨h1, by rw [h2, h3]⟩
    have hend : ∀ (ν' : Val) (M1 : Own) (w1 : World) (s' : SH) (w' : World), (layVal []).Le ν' → Base (layOwn [] []) w M1 w1 → HR ν' M1 w1 s' w' → (Below w.heap.size w w' ∧ ∃ v, Ending.returned (.tuple #[.agg #[.string (qP t), .int .i64 (qW t), .int .i64 (qC t)], .int .i64 (qE t)]) = .returned v ∧ v = .tuple #[.agg #[.string (qP t), .int .i64 (qW t), .int .i64 (qC t)], .int .i64 (qE t)]) := fun ν' M1 w1 s' w' _ hB hr => ⟨below_of not_laid hB hr, _, rfl, rfl⟩
    have hsz := trimB_size t nl1
    have hwa : WordsAre (wsOf t) (trimB t (mkS [10])) (mkS [32]) := ⟨Nat.le_trans hsz hp, Nat.le_refl 1, rfl⟩
    have hpp := pP_size t
    have hpc := pC_in (wsOf t)
    have c1 : (pP (wsOf t)).size ≤ 1000000000 ∧ -9223372036854775808 ≤ pC (wsOf t) ∧ pC (wsOf t) ≤ 9223372036854775807 := by omega
    have c2 : List.map (fun b => SV.v (Value.string b)) (wsOf t) = wsC (wsOf t) ∧ (wsOf t).length = (wsOf t).length ∧ wsOf t ≠ [] ∧ ∀ (b : ByteArray), b ∈ wsOf t → b.size ≤ 1000000000 := ⟨rfl, rfl, wsOf_ne t, fun b hb => Nat.le_trans (wsOf_sizes hb) hp⟩
    have hlit : ({ data := { toList := [] } } : ByteArray) = mkS [] := rfl
    by_cases h0 : t.data.toList = []
    · have hok : okT t = false := decide_eq_false (fun hh => hh.1 h0)
      refine Goes.endsV (KP not_laid hX) (n := 900) (o := (ff [3, 4, 5, 6, 7, 8, 9] true)) (v := _) ?_ hend
      rw [y0]
      have hb : ((t.data.toList == ([] : List UInt8)) = true) := by rw [h0]; rfl
      simp only [Owed, lit_mkS, mkS_list, tlB, mkS_data, hb, qP, qW, qC, qE, hok, true_and, and_true]
      repeat' apply And.intro
      all_goals first | rfl | exact nle hp | exact hwa | exact c2 | exact c2.1 | exact c2.2.2.1 | exact c2.2.2.2 | skip
    · have hb : ((t.data.toList == ([] : List UInt8)) = false) := ne_beq h0
      by_cases h1 : (outB (pP (wsOf t)).data.toList (pW (wsOf t)) (pC (wsOf t))).data.toList = t.data.toList
      · have hok : okT t = true := decide_eq_true ⟨h0, h1⟩
        refine Goes.endsV (KP not_laid hX) (n := 900) (o := (ff [3, 4] false ++ ff [6, 7, 8] false ++ ff [9] false)) (v := _) ?_ hend
        rw [y2]
        simp only [Owed, lit_mkS, mkS_list, tlB, mkS_data, hb, h1, qP, qW, qC, qE, hok, true_and, and_true, beq_self_eq_true, Bool.not_true]
        repeat' apply And.intro
        all_goals first | rfl | exact nle hp | exact hwa | exact c2 | exact c2.1 | exact c2.2.2.1 | exact c2.2.2.2 | exact c1 | exact c1.1 | exact c1.2.1 | exact c1.2.2 | skip
      · have hok : okT t = false := decide_eq_false (fun hh => h1 hh.2)
        refine Goes.endsV (KP not_laid hX) (n := 900) (o := (ff [3, 4] false ++ ff [6, 7, 8] false ++ ff [9] true)) (v := _) ?_ hend
        rw [y1]
        have hb1 := ne_beq h1
        simp only [Owed, lit_mkS, mkS_list, tlB, mkS_data, hb, hb1, qP, qW, qC, qE, hok, true_and, and_true, Bool.not_false]
        repeat' apply And.intro
        all_goals first | rfl | exact nle hp | exact hwa | exact c2 | exact c2.1 | exact c2.2.2.1 | exact c2.2.2.2 | exact c1 | exact c1.1 | exact c1.2.1 | exact c1.2.2 | skip
  · cases h
end words
end Go.Proofs.YtagegnclcengjaaDoor
namespace Go.Proofs.YtagegnclcengjaaDoor
open Go Go.Rx Go.RowKit Go.Proofs
set_option linter.unusedVariables false
set_option linter.unusedSimpArgs false
set_option maxRecDepth 100000
namespace words
theorem tab_of {P : Program} {W : World} {l : List (String × DataW Unit)} (h : laidMetH P l W) {v : String} {k : IntKind} {zs : List Int} (hm : (v, (Lib.tabData k zs : DataW Unit)) ∈ l.filter fun x => x.2.handleName?.isNone)
    {g : Nat} (hg : P.globalNamed v = some g) {t e : TypeId} (ht : (P.globals[g]?).map (·.type) = some t) {n : Nat} (hu : P.underlying t = some (.array n e)) (he : P.underlying e = some (.int k)) (hc : P.cellsOf e = 1) (hct : P.cellsOf t = n) : Lib.TabIs P W v k zs := by
  obtain ⟨ps, hl, _, _⟩ := laidMetH_plain' h
  obtain ⟨g', t', cs, fuel, p, h1, h2, h3, hd⟩ := laidVars_mem hl hm
  rw [hg] at h1; cases h1
  rw [ht] at h2; cases h2
  have hcs := Lib.cells_of_tab hu he hc hct hd
  unfold Lib.TabIs
  rw [h3, ← hcs]
theorem iface_cell {H : Type} {enc : TypeId × Value → H} {P : Program} {W : World} {base : Nat} {sp : Nat → Bool} {held : Bool} {fuel : Nat} {t : TypeId} {ms : Array (String × TypeId)} {cs : List Value} {x : DataW H × List MemPlace}
    (hu : P.underlying t = some (.interface ms)) (hd : DataW.trod enc P W base sp held fuel t cs = some x) : ∃ v, cs = [v] ∧ (v = .nilIface ∨ ∃ u z, v = .iface u z) := by
  cases fuel with
  | zero => simp [DataW.trod] at hd
  | succ n =>
    unfold DataW.trod at hd
    rw [hu] at hd
    split at hd <;> first | exact ⟨_, rfl, .inl rfl⟩ | exact ⟨_, rfl, .inr ⟨_, _, rfl⟩⟩ | simp_all
theorem err_of {P : Program} {W : World} {l : List (String × DataW Unit)} (h : laidMetH P l W) {v : String} {d : DataW Unit} (hm : (v, d) ∈ l.filter fun x => x.2.handleName?.isNone)
    {g : Nat} (hg : P.globalNamed v = some g) {t : TypeId} (ht : (P.globals[g]?).map (·.type) = some t) {ms : Array (String × TypeId)} (hu : P.underlying t = some (.interface ms)) :
    ∃ ev, W.cell? ⟨g, 0, none⟩ = some ev ∧ (ev = .nilIface ∨ ∃ te pe, ev = .iface te pe) := by
  obtain ⟨ps, hl, _, _⟩ := laidMetH_plain' h
  obtain ⟨g', t', cs, fuel, p, h1, h2, h3, hd⟩ := laidVars_mem hl hm
  rw [hg] at h1; cases h1
  rw [ht] at h2; cases h2
  obtain ⟨ev, hcs, hev⟩ := iface_cell hu hd
  have h0 := World.var?_cell hg h3 0
  refine ⟨ev, ?_, hev⟩
  rw [h0, ← Array.getElem?_toList, hcs]; rfl
theorem wx_of {W : World} {l : List (String × DataW Unit)} (h : laidMetH Tryd.prog l W) (hm : ("internal/strconv.uint64pow10", (Lib.tabData .u64 Lib.pow10Tab : DataW Unit)) ∈ l.filter fun x => x.2.handleName?.isNone)
    {d : DataW Unit} (hd : ("strconv.ErrSyntax", d) ∈ l.filter fun x => x.2.handleName?.isNone) (hs : W.ShapedOpen Tryd.prog) : WX W :=
  ⟨tab_of h hm (g := 1) (by kernel_rfl) (t := 86) (by kernel_rfl) (n := 20) (by kernel_rfl) (e := 58) (by kernel_rfl) (by kernel_rfl) (by kernel_rfl),
   err_of h hd (g := 2) (by kernel_rfl) (t := 41) (by kernel_rfl) Tryd.underlying41,
   laysSplit.s1_3 W hs⟩
section
variable {H : Type} {enc : TypeId × Value → H}
/-- As the kit's rule for rows with a condition, with the shape of the world handed on. -/
theorem returns_shaped {a : Assume} {C : Checked} {os : Os} {f : FuncId} {fn : Func} {s : ChangeSpec} {conds : List PathCond} {apart fresh handsOn again : Bool} {X : World → Array Value → Prop}
    (hX : ∀ (w w' : World) (args : Array Value), w.heap = w'.heap → X w args → X w' args) (own : ownKnob C.prog.godebug = none) (started : os.Started) (noInit : C.prog.inits.idxOf? f = none) (hfn : C.prog.funcs[f]? = some fn)
    (witness : ∃ (w : World) (tape : Tape) (i : Input), w.os = os ∧ (w.forCall tape i).Shaped C.prog ∧ i.vars = [] ∧ Input.okWide C.prog (w.forCall tape i) .any w.heap.size f i ∧
      ((s.pre enc C.prog fn conds apart (w.forCall tape i).memory i.args ∧ X (w.forCall tape i).memory i.args) ∧ sizedMet enc C.prog fn (OpenSpec.ofChange s) apart (w.forCall tape i).memory i.args) ∧ a.holds C.prog (lone (Frame.enter C.prog f i.args .normal) [] (w.forCall tape i)))
    (K : ∀ (W : World) (base : Nat) (args : Array Value) (ds gs : List (DataW H)) (before : List MemPlace), (∀ (j : Nat) t v, fn.params[j]? = some t → args[j]? = some v → Value.okWide C.prog W .any base t v) →
      DataW.Whole enc C.prog fn.params.toList s.vars apart W args.toList ds gs before → conds.all (PathCond.test C.prog ⟨fn.params.toList, ds, s.plain.varTypes C.prog, gs⟩) = true →
      (DataW.weightsEach C.prog (fn.params.toList ++ s.plain.varTypes C.prog) (ds ++ gs)).all (· ≤ reachBytes) = true → X W args → W.ShapedOpen C.prog →
      Calls C.prog f args W fun e W' => ∃ v, e = .returned v ∧ s.post enc C.prog fn apart fresh handsOn again W args v W') :
    ReturnsInHanded a C os f .any (fun w args => (s.pre enc C.prog fn conds apart w args ∧ X w args) ∧ sizedMet enc C.prog fn (OpenSpec.ofChange s) apart w args) (s.post enc C.prog fn apart fresh handsOn again) := by
  refine returnsInHanded_of_calls own started noInit witness fun w tape i _ hsh _ hok hpre _ => ?_
  obtain ⟨_, _, _, fn', hfn', _, _, _, _, hval⟩ := hok
  obtain rfl : fn' = fn := Option.some.inj (hfn'.symm.trans hfn)
  obtain ⟨⟨⟨ds, gs, before, hw, hc⟩, hx⟩, hz⟩ := hpre
  refine (K (w.forCall tape i) w.heap.size i.args ds gs before hval (DataW.Whole.of_heap (w' := w.forCall tape i) (by rfl) hw) hc (hz.weights hw) (hX _ _ _ (by rfl) hx) hsh).mono fun e W' ⟨v, he, hp⟩ => ?_
  subst he
  exact ChangeSpec.post_blind hp
end
end words
end Go.Proofs.YtagegnclcengjaaDoor
namespace Go.Proofs.YtagegnclcengjaaDoor
open Go Go.Rx Go.RowKit Go.Proofs
set_option linter.unusedVariables false
set_option linter.unusedSimpArgs false
set_option maxRecDepth 100000
namespace words
theorem idx_hit : ∀ {a r : List UInt8}, (32 : UInt8) ∉ a → Lib.index (a ++ 32 :: r) [32] = a.length
  | [], r, _ => by simp [Lib.index, List.isPrefixOf]
  | b :: a, r, h => by
    have hb : (32 : UInt8) ≠ b := fun e => h (by rw [e]; exact List.mem_cons_self)
    have ih := idx_hit (a := a) (r := r) (fun e => h (List.mem_cons_of_mem _ e))
    have hp : List.isPrefixOf [(32 : UInt8)] (b :: (a ++ 32 :: r)) = false := by simp [List.isPrefixOf, hb]
    rw [List.cons_append, Lib.index, hp, ih]
    have : ((a.length : Int) == -1) = false := by simp
    simp [this]
theorem idx_miss : ∀ {a : List UInt8}, (32 : UInt8) ∉ a → Lib.index a [32] = -1
  | [], _ => by simp [Lib.index]
  | b :: a, h => by
    have hb : (32 : UInt8) ≠ b := fun e => h (by rw [e]; exact List.mem_cons_self)
    have ih := idx_miss (a := a) (fun e => h (List.mem_cons_of_mem _ e))
    have hp : List.isPrefixOf [(32 : UInt8)] (b :: a) = false := by simp [List.isPrefixOf, hb]
    rw [Lib.index, hp, ih]; simp
/-- A text in words. -/
def splitS (s : List UInt8) : List (List UInt8) := Lib.splitK [32] 0 (Lib.count s [32]) s
theorem splitS_miss {a : List UInt8} (h : (32 : UInt8) ∉ a) : splitS a = [a] := by
  unfold splitS
  rw [Lib.count_miss (idx_miss h)]; rfl
theorem splitS_hit {a r : List UInt8} (h : (32 : UInt8) ∉ a) : splitS (a ++ 32 :: r) = a :: splitS r := by
  unfold splitS
  have hi := idx_hit (r := r) h
  have hd : (a ++ 32 :: r).drop (a.length + [(32 : UInt8)].length) = r := by
    rw [List.drop_append, List.drop_of_length_le (by simp)]; simp
  rw [Lib.count_hit (by simp) hi, hd, Nat.add_comm, Lib.splitK, hi]
  have hn : ((a.length : Int) == -1) = false := by simp
  simp [hn]
theorem wsOf_map (t : ByteArray) : (wsOf t).map (·.data.toList) = splitS (trimB t nl1).data.toList := Lib.splitB_data sp1 0 _ _
theorem wsOf_eq (t : ByteArray) : wsOf t = (splitS (trimB t nl1).data.toList).map mkS := by
  rw [← wsOf_map, List.map_map]
  conv => lhs; rw [← List.map_id (wsOf t)]
  exact List.map_congr_left fun b _ => (mkS_of b).symm
theorem trim_nl (l : List UInt8) : (trimB (mkS (l ++ [10])) nl1).data.toList = l := by
  unfold trimB Lib.trimSuffix Lib.hasSuffix nl1
  simp [mkS]
theorem escL_no (c : UInt8) : (32 : UInt8) ∉ escL c := by
  unfold escL
  split
  · rename_i h
    intro e
    rw [List.mem_singleton] at e
    rw [← e] at h; revert h; decide
  · have hx : ∀ n, n < 16 → hexD n ≠ 32 := by decide
    have hc := UInt8.toNat_lt c
    simp only [List.mem_cons, List.not_mem_nil, or_false, not_or]
    exact ⟨by decide, (hx _ (by omega)).symm, (hx _ (by omega)).symm⟩
theorem path_no (l : List UInt8) : (32 : UInt8) ∉ pathL l := by
  unfold pathL
  intro h
  obtain ⟨c, _, hc⟩ := List.mem_flatMap.1 h
  exact escL_no c hc
theorem dec_no (u : Nat) : (32 : UInt8) ∉ Lib.decDigits u := by
  have key : ∀ n, ∀ u, u ≤ n → (32 : UInt8) ∉ Lib.decDigits u := by
    intro n
    induction n with
    | zero =>
      intro u hu h
      rw [Lib.decDigits_one (by omega), List.mem_singleton] at h
      have : u = 0 := by omega
      subst this; revert h; decide
    | succ n ih =>
      intro u hu h
      by_cases h10 : u < 10
      · rw [Lib.decDigits_one h10, List.mem_singleton] at h
        have hd : ∀ k, k < 10 → (32 : UInt8) ≠ UInt8.ofNat (48 + k) := by decide
        exact hd u h10 h
      · rw [Lib.decDigits, dif_neg h10] at h
        rcases List.mem_append.1 h with h | h
        · exact ih (u / 10) (by omega) h
        · rw [List.mem_singleton] at h
          have hd : ∀ k, k < 10 → (32 : UInt8) ≠ UInt8.ofNat (48 + k) := by decide
          exact hd (u % 10) (by omega) h
  exact key u u (Nat.le_refl _)
theorem itoa_no (c : Int) : (32 : UInt8) ∉ Lib.itoa c := by
  unfold Lib.itoa
  split
  · intro h
    rcases List.mem_cons.1 h with h | h
    · revert h; decide
    · exact dec_no _ h
  · exact dec_no _
theorem dec_dig : ∀ (n u : Nat), u ≤ n → ∀ x ∈ Lib.decDigits u, 48 ≤ x.toNat ∧ x.toNat ≤ 57
  | n, u, hu, x, hx => by
    have hd : ∀ k, k < 10 → (UInt8.ofNat (48 + k)).toNat = 48 + k := by decide
    by_cases h10 : u < 10
    · rw [Lib.decDigits_one h10, List.mem_singleton] at hx
      rw [hx, hd u h10]; omega
    · match n, hu with
      | 0, hu => omega
      | n + 1, hu =>
      rw [Lib.decDigits, dif_neg h10] at hx
      rcases List.mem_append.1 hx with hx | hx
      · exact dec_dig n (u / 10) (by omega) x hx
      · rw [List.mem_singleton] at hx
        rw [hx, hd (u % 10) (by omega)]; omega
theorem decFrom_snoc : ∀ (l : List UInt8) (acc m d : Nat), Lib.decFrom acc l = some m → d < 10 → Lib.decFrom acc (l ++ [UInt8.ofNat (48 + d)]) = some (m * 10 + d)
  | [], acc, m, d, h, hd => by
    have hv : ∀ k, k < 10 → Lib.digitVal (UInt8.ofNat (48 + k)) = some k := by decide
    cases h
    simp only [List.nil_append, Lib.decFrom, hv d hd]
  | b :: r, acc, m, d, h, hd => by
    rw [List.cons_append, Lib.decFrom]
    rw [Lib.decFrom] at h
    split at h
    · exact decFrom_snoc r _ m d h hd
    · cases h
theorem decFrom_dec : ∀ (n u : Nat), u ≤ n → Lib.decFrom 0 (Lib.decDigits u) = some u
  | n, u, hu => by
    by_cases h10 : u < 10
    · rw [Lib.decDigits_one h10]
      have := decFrom_snoc [] 0 0 u rfl h10
      simpa using this
    · match n, hu with
      | 0, hu => omega
      | n + 1, hu =>
      rw [Lib.decDigits, dif_neg h10, decFrom_snoc _ 0 (u / 10) (u % 10) (decFrom_dec n (u / 10) (by omega)) (Nat.mod_lt _ (by omega))]
      congr 1; omega
theorem dec_ne (u : Nat) : Lib.decDigits u ≠ [] := fun e => by
  have h := Lib.decDigits_length u
  rw [e] at h
  have := Lib.nDigits_pos u
  simp at h; omega
theorem decNat_dec (u : Nat) : Lib.decNat (Lib.decDigits u) = some u := by
  unfold Lib.decNat
  rw [if_neg (by simpa using dec_ne u), decFrom_dec u u (Nat.le_refl _)]
theorem atoi_itoa (c : Int) : Lib.atoi (Lib.itoa c) = some c := by
  unfold Lib.itoa
  split
  · show ((Lib.decNat (Lib.decDigits c.natAbs)).map fun (m : Nat) => -(m : Int)) = some c
    rw [decNat_dec]
    show some (-(c.natAbs : Int)) = some c
    congr 1; omega
  · have hh := decNat_dec c.toNat
    have hdig := dec_dig c.toNat c.toNat (Nat.le_refl _)
    have hne := dec_ne c.toNat
    generalize Lib.decDigits c.toNat = l at hh hdig hne
    cases l with
    | nil => exact absurd rfl hne
    | cons b r =>
      have hb := hdig b List.mem_cons_self
      have h1 : (b == 45) = false := by
        rw [beq_eq_false_iff_ne]; rintro rfl; revert hb; decide
      have h2 : (b == 43) = false := by
        rw [beq_eq_false_iff_ne]; rintro rfl; revert hb; decide
      unfold Lib.atoi
      simp only [h1, h2, if_false, Bool.false_eq_true]
      rw [hh]
      show some ((c.toNat : Nat) : Int) = some c
      congr 1; omega
theorem itoa_inj {a b : Int} (h : Lib.itoa a = Lib.itoa b) : a = b := by
  have h1 := atoi_itoa a
  rw [h, atoi_itoa b] at h1
  exact (Option.some.inj h1).symm
theorem nd_le : ∀ (k u : Nat), u < 10 ^ (k + 1) → Lib.nDigits u ≤ k + 1
  | 0, u, h => by rw [Lib.nDigits_small (by simpa using h)]; omega
  | k + 1, u, h => by
    by_cases h10 : u < 10
    · rw [Lib.nDigits_small h10]; omega
    · rw [Lib.nDigits_big h10]
      have := nd_le k (u / 10) (by rw [Nat.pow_succ] at h; omega)
      omega
theorem codeI_itoa {c : Int} (h0 : 0 ≤ c) (h1 : c ≤ 999999999) : codeI (Lib.itoa c) = c := by
  unfold codeI
  have hl : (Lib.itoa c).length ≤ 9 := by
    unfold Lib.itoa
    rw [if_neg (by omega), Lib.decDigits_length]
    exact nd_le 8 _ (by have : (10 : Nat) ^ (8 + 1) = 1000000000 := rfl; omega)
  rw [if_pos hl, atoi_itoa]
  simp [h0]
/-! ### an outcome's line is told back -/
theorem plain_esc {c : UInt8} (h : plainN c.toNat = true) : c ≠ 92 := by rintro rfl; revert h; decide
theorem hv_tab : (List.range 16).all (fun n => decide (hv (hexD n).toNat = n)) = true := by kernel_rfl
theorem hv_hex {n : Nat} (h : n < 16) : hv (hexD n).toNat = n := of_decide_eq_true (List.all_eq_true.1 hv_tab n (List.mem_range.2 h))
theorem dec2_hex (c : UInt8) : dec2 (hexD (c.toNat / 16)) (hexD (c.toNat % 16)) = c := by
  have h := UInt8.toNat_lt c
  apply UInt8.toNat_inj.1
  rw [dec2_nat, hv_hex (by omega), hv_hex (by omega)]; omega
theorem un_path : ∀ l : List UInt8, unL (pathL l) = l
  | [] => rfl
  | c :: l => by
    have e : pathL (c :: l) = escL c ++ pathL l := by simp [pathL]
    rw [e]
    unfold escL
    split
    · rename_i h
      rw [List.singleton_append, unL_cons, if_neg (plain_esc h), un_path l]
    · rw [List.cons_append, List.cons_append, List.cons_append, List.nil_append, unL_cons, if_pos rfl]
      show dec2 _ _ :: unL (pathL l) = c :: l
      rw [dec2_hex, un_path l]
theorem unS_path (l : List UInt8) (h : l ≠ []) : unS (pathL l) = mkS l := by
  unfold unS unB
  rw [un_path]
  have := pathL_ne h
  simp [this]
theorem wname_no (w : Int) : (32 : UInt8) ∉ wname w := by
  unfold wname
  repeat' split
  all_goals decide
theorem nameI_wname {w : Int} (h : 1 ≤ w ∧ w ≤ 6) : nameI (wname w) = w := by
  have hx : w = 1 ∨ w = 2 ∨ w = 3 ∨ w = 4 ∨ w = 5 ∨ w = 6 := by omega
  rcases hx with rfl | rfl | rfl | rfl | rfl | rfl <;> decide
theorem line2 {w c : Int} {p : List UInt8} (hw : 1 ≤ w ∧ w ≤ 4) (hp : p ≠ []) (hc : c = 0) : outB p w c = mkS ((wname w ++ [32] ++ pathL p) ++ [10]) := by
  unfold outB
  rw [if_neg (fun h => by rcases h with h | h | h <;> first | omega | exact hp h), if_neg (by omega), if_pos hc]
theorem line3 {w c : Int} {p : List UInt8} (hw : 5 ≤ w ∧ w ≤ 6) (hp : p ≠ []) : outB p w c = mkS ((wname w ++ [32] ++ pathL p ++ [32] ++ Lib.itoa c) ++ [10]) := by
  unfold outB
  rw [if_neg (fun h => by rcases h with h | h | h <;> first | omega | exact hp h), if_pos hw.1]
theorem ws2 {w c : Int} {p : List UInt8} (hw : 1 ≤ w ∧ w ≤ 4) (hp : p ≠ []) (hc : c = 0) : wsOf (outB p w c) = [mkS (wname w), mkS (pathL p)] := by
  rw [line2 hw hp hc, wsOf_eq, trim_nl]
  have e : wname w ++ [32] ++ pathL p = wname w ++ 32 :: pathL p := by simp
  rw [e, splitS_hit (wname_no w), splitS_miss (path_no p)]; rfl
theorem ws3 {w c : Int} {p : List UInt8} (hw : 5 ≤ w ∧ w ≤ 6) (hp : p ≠ []) : wsOf (outB p w c) = [mkS (wname w), mkS (pathL p), mkS (Lib.itoa c)] := by
  rw [line3 hw hp, wsOf_eq, trim_nl]
  have e : wname w ++ [32] ++ pathL p ++ [32] ++ Lib.itoa c = wname w ++ 32 :: (pathL p ++ 32 :: Lib.itoa c) := by simp
  rw [e, splitS_hit (wname_no w), splitS_hit (path_no p), splitS_miss (itoa_no c)]; rfl
/-- A line of which the code is a number of at most nine digits is told back. -/
theorem back {w c : Int} {p : List UInt8} (hw : 1 ≤ w ∧ w ≤ 6) (hp : p ≠ []) (hc : w < 5 → c = 0) (h0 : 0 ≤ c) (h1 : c ≤ 999999999) :
    okT (outB p w c) = true ∧ pP (wsOf (outB p w c)) = mkS p ∧ pW (wsOf (outB p w c)) = w ∧ pC (wsOf (outB p w c)) = c := by
  have hk : pP (wsOf (outB p w c)) = mkS p ∧ pW (wsOf (outB p w c)) = w ∧ pC (wsOf (outB p w c)) = c := by
    by_cases h5 : w < 5
    · rw [ws2 (by omega) hp (hc h5)]
      exact ⟨unS_path p hp, nameI_wname hw, (hc h5).symm⟩
    · rw [ws3 (by omega) hp]
      exact ⟨unS_path p hp, nameI_wname hw, codeI_itoa h0 h1⟩
  obtain ⟨k1, k2, k3⟩ := hk
  refine ⟨decide_eq_true ⟨?_, by rw [k1, k2, k3]; rfl⟩, k1, k2, k3⟩
  by_cases h5 : w < 5
  · rw [line2 (by omega) hp (hc h5), mkS_data]; simp
  · rw [line3 (by omega) hp, mkS_data]; simp
/-- Any other is refused. -/
theorem refused {w c : Int} {p : List UInt8} (hw : 5 ≤ w ∧ w ≤ 6) (hp : p ≠ []) (hc : c < 0 ∨ c > 999999999) : okT (outB p w c) = false := by
  refine decide_eq_false fun ⟨_, h⟩ => ?_
  rw [ws3 hw hp] at h
  have k1 : pP [mkS (wname w), mkS (pathL p), mkS (Lib.itoa c)] = mkS p := unS_path p hp
  have k2 : pW [mkS (wname w), mkS (pathL p), mkS (Lib.itoa c)] = w := nameI_wname (by omega)
  rw [k1, k2] at h
  have hr := pC_in [mkS (wname w), mkS (pathL p), mkS (Lib.itoa c)]
  generalize pC [mkS (wname w), mkS (pathL p), mkS (Lib.itoa c)] = x at h hr
  rw [mkS_data, line3 hw hp, line3 hw hp, mkS_data, mkS_data] at h
  have h := List.append_cancel_right h
  have h := List.append_cancel_left h
  have := itoa_inj h
  omega
theorem refused_nil : okT (mkS []) = false := decide_eq_false fun h => h.1 rfl
end words
end Go.Proofs.YtagegnclcengjaaDoor
