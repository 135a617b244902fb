/- Nc, part 4: several texts of mine, laid together. -/
import Derived.Test.YtbnkagiikibjpaaDoorNcc
import Derived.Shelf.Slices.Cells
import Derived.Shelf.LaysC
import Derived.WalkKit
import Derived.Shelf.Strconv.AtoiAll
import Derived.Shelf.Strconv.Itoa3
import Derived.Shelf.Strings.Cut
import Derived.BigCall
import Derived.Lib.AtoiErrMem
import Derived.Shelf.Sort.Plain
import Derived.Shelf.Slices.Clone
import Derived.LoopN
import Derived.OrdersIn
import Derived.RangeFuncIn
import Derived.RangeFuncLeaves
import Derived.RangeFuncRecord
import Derived.Deep.RegionWith
set_option linter.unusedVariables false
set_option linter.unusedSimpArgs false
/- The library's contracts, laid at this program: printed by lays.py; each field by the kernel. -/
namespace Go.Eng.Bk
open Go Go.Proofs Go.Eng Go.RowKit Go.Shelf
set_option linter.unusedVariables false
def rho : Go.Shelf.Ren := ⟨fun f => match f with
    | 103 => 23
    | 109 => 50
    | 110 => 37
    | 125 => 58
    | 128 => 81
    | 129 => 82
    | 145 => 25
    | 171 => 30
    | 172 => 40
    | 190 => 47
    | 194 => 49
    | 205 => 87
    | 206 => 51
    | 210 => 38
    | 217 => 59
    | 219 => 52
    | 220 => 39
    | 224 => 61
    | 225 => 60
    | 243 => 41
    | 244 => 53
    | 245 => 54
    | 246 => 55
    | 247 => 63
    | 258 => 57
    | 266 => 83
    | 267 => 62
    | 279 => 64
    | 280 => 65
    | 281 => 66
    | 282 => 67
    | 283 => 68
    | 284 => 69
    | 285 => 70
    | 286 => 71
    | 287 => 85
    | 302 => 72
    | 303 => 73
    | 304 => 74
    | 305 => 75
    | 306 => 76
    | 307 => 77
    | 308 => 78
    | 309 => 79
    | 310 => 80
    | 314 => 84
    | 316 => 86
    | 317 => 88
    | 318 => 89
    | 319 => 90
    | 320 => 91
    | 321 => 98
    | 322 => 99
    | 329 => 93
    | 330 => 94
    | 333 => 92
    | 334 => 95
    | 335 => 96
    | 336 => 97
    | 337 => 100
    | 338 => 101
    | 344 => 102
    | 347 => 103
    | 348 => 104
    | 349 => 105
    | 350 => 106
    | 351 => 107
    | 352 => 108
    | 353 => 109
    | 354 => 110
    | 355 => 111
    | 356 => 112
    | 357 => 113
    | 358 => 114
    | 359 => 115
    | 360 => 116
    | 361 => 117
    | 363 => 120
    | 364 => 118
    | 365 => 119
    | 366 => 121
    | 367 => 129
    | x => x, fun t => match t with
    | 22 => 75
    | 24 => 48
    | 25 => 49
    | 27 => 76
    | 28 => 59
    | 32 => 74
    | 33 => 64
    | 37 => 33
    | 46 => 28
    | 47 => 81
    | 51 => 30
    | 52 => 102
    | 53 => 27
    | 54 => 91
    | 55 => 82
    | 59 => 50
    | 60 => 51
    | 69 => 107
    | 74 => 65
    | 75 => 66
    | 76 => 67
    | 77 => 68
    | 80 => 131
    | 81 => 137
    | 83 => 47
    | 84 => 78
    | 100 => 73
    | 101 => 40
    | 102 => 62
    | 104 => 120
    | 108 => 110
    | 111 => 55
    | 114 => 83
    | 127 => 122
    | 128 => 77
    | 131 => 52
    | 135 => 80
    | 143 => 123
    | 144 => 124
    | 145 => 125
    | 146 => 103
    | 151 => 104
    | 164 => 145
    | 167 => 84
    | 168 => 87
    | 169 => 88
    | 170 => 89
    | 171 => 90
    | 172 => 92
    | 173 => 93
    | 174 => 94
    | 175 => 105
    | 176 => 106
    | 182 => 96
    | 183 => 97
    | 188 => 95
    | 189 => 98
    | 190 => 99
    | 191 => 100
    | 192 => 101
    | 209 => 108
    | 210 => 109
    | 211 => 111
    | 212 => 112
    | 213 => 113
    | 214 => 121
    | 218 => 114
    | 219 => 115
    | 220 => 116
    | 222 => 118
    | 224 => 117
    | 225 => 119
    | 228 => 126
    | 229 => 127
    | 231 => 128
    | 232 => 129
    | 233 => 130
    | 238 => 132
    | 239 => 133
    | 240 => 134
    | 241 => 135
    | 242 => 136
    | 243 => 138
    | 244 => 139
    | 245 => 140
    | 246 => 141
    | 247 => 142
    | 248 => 143
    | 249 => 144
    | x => x, fun g => match g with
    | 1 => 0
    | 15 => 1
    | 16 => 2
    | 17 => 3
    | 18 => 4
    | 19 => 5
    | x => x⟩
theorem isAgg_of {P : Program} {t : TypeId} (h : isOneT P t = true) (w : World) : (isAgg t).run P w = .ok false w := run_isAgg_no h w
def aggB (P : Program) (t : TypeId) : Bool := match P.underlying t with
  | some (.struct _) => true
  | some (.array _ _) => true
  | _ => false
theorem isAgg_yes {P : Program} {t : TypeId} (h : aggB P t = true) (w : World) : (isAgg t).run P w = .ok true w := by
  unfold aggB at h
  split at h
  · rename_i hu; simp [isAgg, run_underlying hu]
  · rename_i hu; simp [isAgg, run_underlying hu]
  · cases h
theorem size_at {P : Program} {t : TypeId} {n : Nat} (h : Nat.blt 0 (szOf P t) = true) (hn : szOf P t = n) (w : World) : (Go.sizeOf t).run P w = .ok n w := hn ▸ run_sizeOf h w
theorem zero_of {P : Program} {t : TypeId} {i : TypeInfo} {v : Value} (h : P.info? t = some i) (hz : i.zero = some v) (w : World) : (zeroValue t).run P w = .ok v w := by
  simp [zeroValue, typeInfo, h, hz]
theorem zero_at {t : TypeId} {v : Value} (h : (Tryd.prog.info? t).bind (·.zero) = some v) (w : World) : (zeroValue t).run Tryd.prog w = .ok v w := by
  cases hi : Tryd.prog.info? t with
  | none => rw [hi] at h; cases h
  | some i => rw [hi] at h; exact zero_of hi h w
set_option maxRecDepth 100000
theorem lay172 : Go.Proofs.LaysC.n172 Tryd.prog rho where
  mixed := by kernel_rfl
  f129 := by kernel_rfl
  f171 := by kernel_rfl
  f172 := by kernel_rfl
  f205 := by kernel_rfl
  f243 := by kernel_rfl
  f244 := by kernel_rfl
  f245 := by kernel_rfl
  f246 := by kernel_rfl
  f247 := by kernel_rfl
  f279 := by kernel_rfl
  f280 := by kernel_rfl
  f281 := by kernel_rfl
  f282 := by kernel_rfl
  f283 := by kernel_rfl
  f284 := by kernel_rfl
  f285 := by kernel_rfl
  f286 := by kernel_rfl
  f287 := by kernel_rfl
  f316 := by kernel_rfl
  f317 := by kernel_rfl
  f318 := by kernel_rfl
  f319 := by kernel_rfl
  f320 := by kernel_rfl
  f321 := by kernel_rfl
  f322 := by kernel_rfl
  f337 := by kernel_rfl
  f338 := by kernel_rfl
  t0 := by kernel_rfl
  a0 := fun w => isAgg_of (by kernel_rfl) w
  z0 := fun w => size_at (by kernel_rfl) (by kernel_rfl) w
  v0 := fun w => zero_at (by kernel_rfl) w
  t2 := by kernel_rfl
  a2 := fun w => isAgg_of (by kernel_rfl) w
  z2 := fun w => size_at (by kernel_rfl) (by kernel_rfl) w
  v2 := fun w => zero_at (by kernel_rfl) w
  t3 := by kernel_rfl
  a3 := fun w => isAgg_of (by kernel_rfl) w
  z3 := fun w => size_at (by kernel_rfl) (by kernel_rfl) w
  v3 := fun w => zero_at (by kernel_rfl) w
  t4 := by kernel_rfl
  a4 := fun w => isAgg_of (by kernel_rfl) w
  z4 := fun w => size_at (by kernel_rfl) (by kernel_rfl) w
  v4 := fun w => zero_at (by kernel_rfl) w
  t5 := by kernel_rfl
  a5 := fun w => isAgg_of (by kernel_rfl) w
  z5 := fun w => size_at (by kernel_rfl) (by kernel_rfl) w
  v5 := fun w => zero_at (by kernel_rfl) w
  t9 := by kernel_rfl
  a9 := fun w => isAgg_of (by kernel_rfl) w
  z9 := fun w => size_at (by kernel_rfl) (by kernel_rfl) w
  v9 := fun w => zero_at (by kernel_rfl) w
  t20 := by kernel_rfl
  a20 := fun w => isAgg_of (by kernel_rfl) w
  z20 := fun w => size_at (by kernel_rfl) (by kernel_rfl) w
  v20 := fun w => zero_at (by kernel_rfl) w
  t21 := by kernel_rfl
  a21 := fun w => isAgg_of (by kernel_rfl) w
  z21 := fun w => size_at (by kernel_rfl) (by kernel_rfl) w
  v21 := fun w => zero_at (by kernel_rfl) w
  t37 := by kernel_rfl
  a37 := fun w => isAgg_of (by kernel_rfl) w
  z37 := fun w => size_at (by kernel_rfl) (by kernel_rfl) w
  v37 := fun w => zero_at (by kernel_rfl) w
  t46 := by kernel_rfl
  a46 := fun w => isAgg_of (by kernel_rfl) w
  z46 := fun w => size_at (by kernel_rfl) (by kernel_rfl) w
  v46 := fun w => zero_at (by kernel_rfl) w
  t51 := by kernel_rfl
  a51 := fun w => isAgg_of (by kernel_rfl) w
  z51 := fun w => size_at (by kernel_rfl) (by kernel_rfl) w
  v51 := fun w => zero_at (by kernel_rfl) w
  t53 := by kernel_rfl
  a53 := fun w => isAgg_of (by kernel_rfl) w
  z53 := fun w => size_at (by kernel_rfl) (by kernel_rfl) w
  v53 := fun w => zero_at (by kernel_rfl) w
  t75 := by kernel_rfl
  a75 := fun w => isAgg_of (by kernel_rfl) w
  z75 := fun w => size_at (by kernel_rfl) (by kernel_rfl) w
  v75 := fun w => zero_at (by kernel_rfl) w
  t76 := by kernel_rfl
  a76 := fun w => isAgg_of (by kernel_rfl) w
  z76 := fun w => size_at (by kernel_rfl) (by kernel_rfl) w
  v76 := fun w => zero_at (by kernel_rfl) w
  t85 := by kernel_rfl
  a85 := fun w => isAgg_of (by kernel_rfl) w
  z85 := fun w => size_at (by kernel_rfl) (by kernel_rfl) w
  v85 := fun w => zero_at (by kernel_rfl) w
  t127 := by kernel_rfl
  a127 := fun w => isAgg_of (by kernel_rfl) w
  z127 := fun w => size_at (by kernel_rfl) (by kernel_rfl) w
  v127 := fun w => zero_at (by kernel_rfl) w
  t143 := by kernel_rfl
  a143 := fun w => isAgg_of (by kernel_rfl) w
  z143 := fun w => size_at (by kernel_rfl) (by kernel_rfl) w
  v143 := fun w => zero_at (by kernel_rfl) w
  t145 := by kernel_rfl
  a145 := fun w => isAgg_yes (by kernel_rfl) w
  z145 := fun w => size_at (by kernel_rfl) (by kernel_rfl) w
  v145 := fun w => zero_at (by kernel_rfl) w
  t167 := by kernel_rfl
  a167 := fun w => isAgg_of (by kernel_rfl) w
  z167 := fun w => size_at (by kernel_rfl) (by kernel_rfl) w
  v167 := fun w => zero_at (by kernel_rfl) w
  t168 := by kernel_rfl
  a168 := fun w => isAgg_of (by kernel_rfl) w
  z168 := fun w => size_at (by kernel_rfl) (by kernel_rfl) w
  v168 := fun w => zero_at (by kernel_rfl) w
  t171 := by kernel_rfl
  a171 := fun w => isAgg_yes (by kernel_rfl) w
  z171 := fun w => size_at (by kernel_rfl) (by kernel_rfl) w
  v171 := fun w => zero_at (by kernel_rfl) w
  t173 := by kernel_rfl
  a173 := fun w => isAgg_of (by kernel_rfl) w
  z173 := fun w => size_at (by kernel_rfl) (by kernel_rfl) w
  v173 := fun w => zero_at (by kernel_rfl) w
  t175 := by kernel_rfl
  a175 := fun w => isAgg_of (by kernel_rfl) w
  z175 := fun w => size_at (by kernel_rfl) (by kernel_rfl) w
  v175 := fun w => zero_at (by kernel_rfl) w
  t210 := by kernel_rfl
  a210 := fun w => isAgg_yes (by kernel_rfl) w
  z210 := fun w => size_at (by kernel_rfl) (by kernel_rfl) w
  v210 := fun w => zero_at (by kernel_rfl) w
  t212 := by kernel_rfl
  a212 := fun w => isAgg_yes (by kernel_rfl) w
  z212 := fun w => size_at (by kernel_rfl) (by kernel_rfl) w
  v212 := fun w => zero_at (by kernel_rfl) w
  t213 := by kernel_rfl
  a213 := fun w => isAgg_yes (by kernel_rfl) w
  z213 := fun w => size_at (by kernel_rfl) (by kernel_rfl) w
  t232 := by kernel_rfl
  a232 := fun w => isAgg_yes (by kernel_rfl) w
  z232 := fun w => size_at (by kernel_rfl) (by kernel_rfl) w
  v232 := fun w => zero_at (by kernel_rfl) w
  t233 := by kernel_rfl
  a233 := fun w => isAgg_yes (by kernel_rfl) w
  z233 := fun w => size_at (by kernel_rfl) (by kernel_rfl) w
  v233 := fun w => zero_at (by kernel_rfl) w
  g15 := by kernel_rfl
  g16 := by kernel_rfl
  g17 := by kernel_rfl
  g18 := by kernel_rfl
  g19 := by kernel_rfl
  t80 := by kernel_rfl
  a80 := fun w => isAgg_of (by kernel_rfl) w
  z80 := fun w => size_at (by kernel_rfl) (by kernel_rfl) w
  v80 := fun w => zero_at (by kernel_rfl) w
  i0 := by kernel_rfl
  i2 := by kernel_rfl
  i3 := by kernel_rfl
  i4 := by kernel_rfl
  i5 := by kernel_rfl
  i9 := by kernel_rfl
  i20 := by kernel_rfl
  i21 := by kernel_rfl
  i37 := by kernel_rfl
  i46 := by kernel_rfl
  i51 := by kernel_rfl
  i53 := by kernel_rfl
  i75 := by kernel_rfl
  i76 := by kernel_rfl
  i80 := by kernel_rfl
  i85 := by kernel_rfl
  i127 := by kernel_rfl
  i143 := by kernel_rfl
  i145 := by kernel_rfl
  i167 := by kernel_rfl
  i168 := by kernel_rfl
  i171 := by kernel_rfl
  i173 := by kernel_rfl
  i175 := by kernel_rfl
  i210 := by kernel_rfl
  i212 := by kernel_rfl
  i232 := by kernel_rfl
  i233 := by kernel_rfl
  m15 := by kernel_rfl
  m16 := by kernel_rfl
  m17 := by kernel_rfl
  m18 := by kernel_rfl
  m19 := by kernel_rfl
  c0 := by kernel_rfl
  c2 := by kernel_rfl
  c3 := by kernel_rfl
  c4 := by kernel_rfl
  c5 := by kernel_rfl
  c9 := by kernel_rfl
  c20 := by kernel_rfl
  c21 := by kernel_rfl
  c37 := by kernel_rfl
  c46 := by kernel_rfl
  c51 := by kernel_rfl
  c53 := by kernel_rfl
  c75 := by kernel_rfl
  c76 := by kernel_rfl
  c80 := by kernel_rfl
  c85 := by kernel_rfl
  c127 := by kernel_rfl
  c143 := by kernel_rfl
  c145 := by kernel_rfl
  c167 := by kernel_rfl
  c168 := by kernel_rfl
  c171 := by kernel_rfl
  c173 := by kernel_rfl
  c175 := by kernel_rfl
  c210 := by kernel_rfl
  c212 := by kernel_rfl
  c213 := by kernel_rfl
  c232 := by kernel_rfl
  c233 := by kernel_rfl
theorem lay171 : Go.Proofs.LaysM.n171 Tryd.prog rho where
  mixed := by kernel_rfl
  f129 := by kernel_rfl
  f171 := by kernel_rfl
  f243 := by kernel_rfl
  f246 := by kernel_rfl
  f283 := by kernel_rfl
  f284 := by kernel_rfl
  f285 := by kernel_rfl
  f286 := by kernel_rfl
  f317 := by kernel_rfl
  f318 := by kernel_rfl
  f319 := by kernel_rfl
  f320 := by kernel_rfl
  f337 := by kernel_rfl
  f338 := by kernel_rfl
  t0 := by kernel_rfl
  a0 := fun w => isAgg_of (by kernel_rfl) w
  z0 := fun w => size_at (by kernel_rfl) (by kernel_rfl) w
  v0 := fun w => zero_at (by kernel_rfl) w
  t2 := by kernel_rfl
  a2 := fun w => isAgg_of (by kernel_rfl) w
  z2 := fun w => size_at (by kernel_rfl) (by kernel_rfl) w
  v2 := fun w => zero_at (by kernel_rfl) w
  t3 := by kernel_rfl
  a3 := fun w => isAgg_of (by kernel_rfl) w
  z3 := fun w => size_at (by kernel_rfl) (by kernel_rfl) w
  v3 := fun w => zero_at (by kernel_rfl) w
  t4 := by kernel_rfl
  a4 := fun w => isAgg_of (by kernel_rfl) w
  z4 := fun w => size_at (by kernel_rfl) (by kernel_rfl) w
  v4 := fun w => zero_at (by kernel_rfl) w
  t5 := by kernel_rfl
  a5 := fun w => isAgg_of (by kernel_rfl) w
  z5 := fun w => size_at (by kernel_rfl) (by kernel_rfl) w
  v5 := fun w => zero_at (by kernel_rfl) w
  t9 := by kernel_rfl
  a9 := fun w => isAgg_of (by kernel_rfl) w
  z9 := fun w => size_at (by kernel_rfl) (by kernel_rfl) w
  v9 := fun w => zero_at (by kernel_rfl) w
  t20 := by kernel_rfl
  a20 := fun w => isAgg_of (by kernel_rfl) w
  z20 := fun w => size_at (by kernel_rfl) (by kernel_rfl) w
  v20 := fun w => zero_at (by kernel_rfl) w
  t37 := by kernel_rfl
  a37 := fun w => isAgg_of (by kernel_rfl) w
  z37 := fun w => size_at (by kernel_rfl) (by kernel_rfl) w
  v37 := fun w => zero_at (by kernel_rfl) w
  t46 := by kernel_rfl
  a46 := fun w => isAgg_of (by kernel_rfl) w
  z46 := fun w => size_at (by kernel_rfl) (by kernel_rfl) w
  v46 := fun w => zero_at (by kernel_rfl) w
  t51 := by kernel_rfl
  a51 := fun w => isAgg_of (by kernel_rfl) w
  z51 := fun w => size_at (by kernel_rfl) (by kernel_rfl) w
  v51 := fun w => zero_at (by kernel_rfl) w
  t53 := by kernel_rfl
  a53 := fun w => isAgg_of (by kernel_rfl) w
  z53 := fun w => size_at (by kernel_rfl) (by kernel_rfl) w
  v53 := fun w => zero_at (by kernel_rfl) w
  t171 := by kernel_rfl
  a171 := fun w => isAgg_yes (by kernel_rfl) w
  z171 := fun w => size_at (by kernel_rfl) (by kernel_rfl) w
  v171 := fun w => zero_at (by kernel_rfl) w
  t173 := by kernel_rfl
  a173 := fun w => isAgg_of (by kernel_rfl) w
  z173 := fun w => size_at (by kernel_rfl) (by kernel_rfl) w
  v173 := fun w => zero_at (by kernel_rfl) w
  t212 := by kernel_rfl
  a212 := fun w => isAgg_yes (by kernel_rfl) w
  z212 := fun w => size_at (by kernel_rfl) (by kernel_rfl) w
  v212 := fun w => zero_at (by kernel_rfl) w
  t213 := by kernel_rfl
  a213 := fun w => isAgg_yes (by kernel_rfl) w
  z213 := fun w => size_at (by kernel_rfl) (by kernel_rfl) w
  t232 := by kernel_rfl
  a232 := fun w => isAgg_yes (by kernel_rfl) w
  z232 := fun w => size_at (by kernel_rfl) (by kernel_rfl) w
  v232 := fun w => zero_at (by kernel_rfl) w
  t233 := by kernel_rfl
  a233 := fun w => isAgg_yes (by kernel_rfl) w
  z233 := fun w => size_at (by kernel_rfl) (by kernel_rfl) w
  v233 := fun w => zero_at (by kernel_rfl) w
  g17 := by kernel_rfl
  g18 := by kernel_rfl
  g19 := by kernel_rfl
  i0 := by kernel_rfl
  i2 := by kernel_rfl
  i3 := by kernel_rfl
  i4 := by kernel_rfl
  i5 := by kernel_rfl
  i9 := by kernel_rfl
  i20 := by kernel_rfl
  i37 := by kernel_rfl
  i46 := by kernel_rfl
  i51 := by kernel_rfl
  i53 := by kernel_rfl
  i171 := by kernel_rfl
  i173 := by kernel_rfl
  i212 := by kernel_rfl
  i232 := by kernel_rfl
  i233 := by kernel_rfl
  m17 := by kernel_rfl
  m18 := by kernel_rfl
  m19 := by kernel_rfl
theorem lay145 : Go.Proofs.Lays.n145 Tryd.prog rho where
  mixed := by kernel_rfl
  f145 := by kernel_rfl
  f217 := by kernel_rfl
  f219 := by kernel_rfl
  f220 := by kernel_rfl
  f224 := by kernel_rfl
  f225 := by kernel_rfl
  f266 := by kernel_rfl
  f267 := by kernel_rfl
  f314 := by kernel_rfl
  t3 := by kernel_rfl
  a3 := fun w => isAgg_of (by kernel_rfl) w
  z3 := fun w => size_at (by kernel_rfl) (by kernel_rfl) w
  v3 := fun w => zero_at (by kernel_rfl) w
  t4 := by kernel_rfl
  a4 := fun w => isAgg_of (by kernel_rfl) w
  z4 := fun w => size_at (by kernel_rfl) (by kernel_rfl) w
  v4 := fun w => zero_at (by kernel_rfl) w
  t5 := by kernel_rfl
  a5 := fun w => isAgg_of (by kernel_rfl) w
  z5 := fun w => size_at (by kernel_rfl) (by kernel_rfl) w
  v5 := fun w => zero_at (by kernel_rfl) w
  t9 := by kernel_rfl
  a9 := fun w => isAgg_of (by kernel_rfl) w
  z9 := fun w => size_at (by kernel_rfl) (by kernel_rfl) w
  v9 := fun w => zero_at (by kernel_rfl) w
  t46 := by kernel_rfl
  a46 := fun w => isAgg_of (by kernel_rfl) w
  z46 := fun w => size_at (by kernel_rfl) (by kernel_rfl) w
  v46 := fun w => zero_at (by kernel_rfl) w
  t51 := by kernel_rfl
  a51 := fun w => isAgg_of (by kernel_rfl) w
  z51 := fun w => size_at (by kernel_rfl) (by kernel_rfl) w
  v51 := fun w => zero_at (by kernel_rfl) w
  t59 := by kernel_rfl
  a59 := fun w => isAgg_of (by kernel_rfl) w
  z59 := fun w => size_at (by kernel_rfl) (by kernel_rfl) w
  v59 := fun w => zero_at (by kernel_rfl) w
  t146 := by kernel_rfl
  a146 := fun w => isAgg_of (by kernel_rfl) w
  z146 := fun w => size_at (by kernel_rfl) (by kernel_rfl) w
  v146 := fun w => zero_at (by kernel_rfl) w
  g1 := by kernel_rfl
theorem lay190 : Go.Proofs.Lays.n190 Tryd.prog rho where
  mixed := by kernel_rfl
  f125 := by kernel_rfl
  f128 := by kernel_rfl
  f129 := by kernel_rfl
  f190 := by kernel_rfl
  f258 := by kernel_rfl
  f302 := by kernel_rfl
  f303 := by kernel_rfl
  f304 := by kernel_rfl
  f305 := by kernel_rfl
  f306 := by kernel_rfl
  f307 := by kernel_rfl
  f308 := by kernel_rfl
  f309 := by kernel_rfl
  f310 := by kernel_rfl
  f329 := by kernel_rfl
  f330 := by kernel_rfl
  f333 := by kernel_rfl
  f334 := by kernel_rfl
  f335 := by kernel_rfl
  f336 := by kernel_rfl
  f344 := by kernel_rfl
  t0 := by kernel_rfl
  a0 := fun w => isAgg_of (by kernel_rfl) w
  z0 := fun w => size_at (by kernel_rfl) (by kernel_rfl) w
  v0 := fun w => zero_at (by kernel_rfl) w
  t3 := by kernel_rfl
  a3 := fun w => isAgg_of (by kernel_rfl) w
  z3 := fun w => size_at (by kernel_rfl) (by kernel_rfl) w
  v3 := fun w => zero_at (by kernel_rfl) w
  t4 := by kernel_rfl
  a4 := fun w => isAgg_of (by kernel_rfl) w
  z4 := fun w => size_at (by kernel_rfl) (by kernel_rfl) w
  v4 := fun w => zero_at (by kernel_rfl) w
  t5 := by kernel_rfl
  a5 := fun w => isAgg_of (by kernel_rfl) w
  z5 := fun w => size_at (by kernel_rfl) (by kernel_rfl) w
  v5 := fun w => zero_at (by kernel_rfl) w
  t9 := by kernel_rfl
  a9 := fun w => isAgg_of (by kernel_rfl) w
  z9 := fun w => size_at (by kernel_rfl) (by kernel_rfl) w
  v9 := fun w => zero_at (by kernel_rfl) w
  t31 := by kernel_rfl
  a31 := fun w => isAgg_of (by kernel_rfl) w
  z31 := fun w => size_at (by kernel_rfl) (by kernel_rfl) w
  v31 := fun w => zero_at (by kernel_rfl) w
  t46 := by kernel_rfl
  a46 := fun w => isAgg_of (by kernel_rfl) w
  z46 := fun w => size_at (by kernel_rfl) (by kernel_rfl) w
  v46 := fun w => zero_at (by kernel_rfl) w
  t51 := by kernel_rfl
  a51 := fun w => isAgg_of (by kernel_rfl) w
  z51 := fun w => size_at (by kernel_rfl) (by kernel_rfl) w
  v51 := fun w => zero_at (by kernel_rfl) w
  t53 := by kernel_rfl
  a53 := fun w => isAgg_of (by kernel_rfl) w
  z53 := fun w => size_at (by kernel_rfl) (by kernel_rfl) w
  v53 := fun w => zero_at (by kernel_rfl) w
  t131 := by kernel_rfl
  a131 := fun w => isAgg_of (by kernel_rfl) w
  z131 := fun w => size_at (by kernel_rfl) (by kernel_rfl) w
  v131 := fun w => zero_at (by kernel_rfl) w
  t182 := by kernel_rfl
  a182 := fun w => isAgg_of (by kernel_rfl) w
  z182 := fun w => size_at (by kernel_rfl) (by kernel_rfl) w
  v182 := fun w => zero_at (by kernel_rfl) w
  t183 := by kernel_rfl
  a183 := fun w => isAgg_of (by kernel_rfl) w
  z183 := fun w => size_at (by kernel_rfl) (by kernel_rfl) w
  v183 := fun w => zero_at (by kernel_rfl) w
  t218 := by kernel_rfl
  a218 := fun w => isAgg_of (by kernel_rfl) w
  z218 := fun w => size_at (by kernel_rfl) (by kernel_rfl) w
  v218 := fun w => zero_at (by kernel_rfl) w
  t222 := by kernel_rfl
  a222 := fun w => isAgg_of (by kernel_rfl) w
  z222 := fun w => size_at (by kernel_rfl) (by kernel_rfl) w
  v222 := fun w => zero_at (by kernel_rfl) w
  t228 := by kernel_rfl
  a228 := fun w => isAgg_of (by kernel_rfl) w
  z228 := fun w => size_at (by kernel_rfl) (by kernel_rfl) w
  v228 := fun w => zero_at (by kernel_rfl) w
  t229 := by kernel_rfl
  a229 := fun w => isAgg_of (by kernel_rfl) w
  z229 := fun w => size_at (by kernel_rfl) (by kernel_rfl) w
  v229 := fun w => zero_at (by kernel_rfl) w
theorem lay194 : Go.Proofs.Lays.n194 Tryd.prog rho where
  mixed := by kernel_rfl
  f194 := by kernel_rfl
  t0 := by kernel_rfl
  a0 := fun w => isAgg_of (by kernel_rfl) w
  z0 := fun w => size_at (by kernel_rfl) (by kernel_rfl) w
  v0 := fun w => zero_at (by kernel_rfl) w
  t3 := by kernel_rfl
  a3 := fun w => isAgg_of (by kernel_rfl) w
  z3 := fun w => size_at (by kernel_rfl) (by kernel_rfl) w
  v3 := fun w => zero_at (by kernel_rfl) w
  t4 := by kernel_rfl
  a4 := fun w => isAgg_of (by kernel_rfl) w
  z4 := fun w => size_at (by kernel_rfl) (by kernel_rfl) w
  v4 := fun w => zero_at (by kernel_rfl) w
  t9 := by kernel_rfl
  a9 := fun w => isAgg_of (by kernel_rfl) w
  z9 := fun w => size_at (by kernel_rfl) (by kernel_rfl) w
  v9 := fun w => zero_at (by kernel_rfl) w
  t31 := by kernel_rfl
  a31 := fun w => isAgg_of (by kernel_rfl) w
  z31 := fun w => size_at (by kernel_rfl) (by kernel_rfl) w
  v31 := fun w => zero_at (by kernel_rfl) w
end Go.Eng.Bk
/- strconv.Itoa, strings.Cut, name.number: their contracts. -/
namespace Go.Eng.Bk
open Go Go.Proofs Go.Eng Go.RowKit Go.Shelf Go.Sort
set_option linter.unusedVariables false
set_option linter.unusedSimpArgs false
set_option maxRecDepth 100000
theorem below_grow {B : Nat} {w : World} {q : Nat} {os : Array Obj} (hB : B ≤ w.heap.size) : Below B w (grow (w.drewN q) os) :=
  ⟨rfl, rfl, rfl, by show w.heap.size ≤ (w.heap ++ os).size; rw [Array.size_append]; omega, fun k hk => by show (w.heap ++ os)[k]? = _; rw [Array.getElem?_append_left (by omega)]⟩
theorem V_str {w : World} {N : Nat → Prop} {s : ByteArray} {u : Value} (h : V (argVw w N) (.v .str s) u) : u = .string s := by
  have h' : [u] = [_] := h
  exact (List.cons.inj h').1
theorem V_i64 {w : World} {N : Nat → Prop} {n : Int} {u : Value} (h : V (argVw w N) (.v (.int .i64) n) u) : u = .int .i64 n := by
  have h' : [u] = [_] := h
  exact (List.cons.inj h').1
theorem pow_at {w : World} (h : okW w) : Lib.TabIs Tryd.prog w "internal/strconv.uint64pow10" .u64 Lib.pow10Tab := h.pow _ lay171.m17
theorem con30 {n : Int} (h0 : -9223372036854775808 ≤ n) (h1 : n ≤ 9223372036854775807) : CallOk Tryd.prog (shOf 30) 30 [.v (.int .i64) n] (itoaB n) := by
  refine .inl ⟨⟨Tryd.f30, Tryd.func30, by kernel_rfl, rfl⟩, fun w N vargs hok hv => ?_⟩
  match vargs, hv with
  | [u], ⟨hu, _⟩ =>
  rw [V_i64 hu]
  refine (Any.strconv_Itoa lay171 n h0 h1 w (pow_at hok)).mono ?_
  rintro e w' ⟨rfl, k, os, rfl⟩
  exact ⟨_, rfl, below_grow (Nat.le_refl _), ⟨⟨_, rfl, rfl⟩, rfl⟩, List.nodup_nil⟩
theorem con25 {s p : ByteArray} (hs : s.size < 4294967281) : CallOk Tryd.prog (shOf 25) 25 [.v .str s, .v .str p] (cutB s p) := by
  refine .inl ⟨⟨Tryd.f25, Tryd.func25, by kernel_rfl, rfl⟩, fun w N vargs hok hv => ?_⟩
  match vargs, hv with
  | [u, v], ⟨hu, hv, _⟩ =>
  rw [V_str hu, V_str hv]
  obtain ⟨m, hm⟩ := hok.len 0 (by kernel_rfl)
  refine (Any.strings_Cut lay145 s p m w hs hm).mono ?_
  rintro e w' ⟨rfl, k, rfl⟩
  exact ⟨_, rfl, ⟨rfl, rfl, rfl, Nat.le_refl _, fun _ _ => rfl⟩, _, rfl, ⟨⟨_, rfl, rfl⟩, ⟨_, rfl, rfl⟩, ⟨_, rfl, rfl⟩, rfl⟩, List.nodup_nil⟩
theorem atoi_bounds {l : List UInt8} {v : Int} (h : Lib.atoiAll l = .ok v) : -9223372036854775808 ≤ v ∧ v ≤ 9223372036854775807 := Lib.atoiAll_bounds h
theorem itoa_eq (v : Int) (s : ByteArray) : (Lib.itoa v == s.toList) = decide (itoaB v = s) := by
  by_cases h : itoaB v = s
  · rw [decide_eq_true h, ← h, ba_toList]
    simp [itoaB]
  · rw [decide_eq_false h]
    refine beq_eq_false_iff_ne.2 (fun e => h ?_)
    refine ba_ext ?_
    rw [← e, ba_toList]
    rfl
theorem num_calls (s : ByteArray) (hlim : s.size ≤ 281474976710656) (w : World) (hok : okW w) :
    Calls Tryd.prog 26 #[.string s] w fun e w' => e = .returned (.tuple #[.int .i64 (numB s).1, .bool (numB s).2.1]) ∧ Below w.heap.size w w' := by
  obtain ⟨ev0, hv0, he0⟩ := hok.syn _ lay172.m15
  obtain ⟨ev1, hv1, he1⟩ := hok.rng _ lay172.m16
  cases h : Lib.atoiAll s.data.toList with
  | ok v =>
    obtain ⟨b0, b1⟩ := atoi_bounds h
    have hr : numB s = (v, (decide (0 ≤ v ∧ v ≤ 9007199254740992) && decide (itoaB v = s)), ()) := by unfold numB; rw [h]
    rw [hr]
    obtain ⟨rb, hrb⟩ : ∃ rb, (decide (0 ≤ v ∧ v ≤ 9007199254740992) && decide (itoaB v = s)) = rb := ⟨_, rfl⟩
    rw [hrb]
    go_enter Tryd.func26, Tryd.ntmps26
    go_wp2_with (go_at_call 40; refine (Any.strconv_Atoi_ok lay172 s (by omega) v h _).mono ?_; rintro e w' ⟨rfl, hw⟩)
    have hb : Below w.heap.size w w' := by
      rcases hw with rfl | ⟨t, rfl⟩
      · exact Below.refl _ _
      · exact Lib.bytesWorld_below _ _ _
    have htab := pow_at (hok.below hb)
    clear hw
    go_wp2_with (first | (go_at_call 30; refine (Any.strconv_Itoa lay171 v b0 b1 _ htab).mono ?_; rintro e w2 ⟨rfl, k, os, rfl⟩) | go_in)
    · rename_i g0 g1
      go_ret2
      have e : rb = (Lib.itoa v == s.toList) := by rw [← hrb, itoa_eq, decide_eq_true (⟨g0, g1⟩ : 0 ≤ v ∧ v ≤ 9007199254740992), Bool.true_and]
      rw [e]
      exact ⟨rfl, hb.trans (below_grow hb.size)⟩
    · rename_i g0 g1
      go_ret2
      have e : rb = false := by rw [← hrb, decide_eq_false (fun h : 0 ≤ v ∧ v ≤ 9007199254740992 => by omega), Bool.false_and]
      rw [e]
      exact ⟨rfl, hb⟩
    · rename_i g0
      go_ret2
      have e : rb = false := by rw [← hrb, decide_eq_false (fun h : 0 ≤ v ∧ v ≤ 9007199254740992 => by omega), Bool.false_and]
      rw [e]
      exact ⟨rfl, hb⟩
  | range =>
    have hr : numB s = (Lib.atoiSat s.data.toList, false, ()) := by unfold numB; rw [h]
    rw [hr]
    go_enter Tryd.func26, Tryd.ntmps26
    go_wp2_with (go_at_call 40; refine (Any.strconv_Atoi_range lay172 s hlim h ev1 _ ?_ he1).mono ?_)
    · exact hv1
    rintro e W1 ⟨N, rfl, -, -, hb⟩
    go_wp2
    go_ret2
    exact ⟨rfl, hb⟩
  | _ =>
    have hr : numB s = (0, false, ()) := by unfold numB; rw [h]
    rw [hr]
    go_enter Tryd.func26, Tryd.ntmps26
    go_wp2_with (go_at_call 40; refine (Any.strconv_Atoi_syntax lay172 s hlim h ev0 _ ?_ he0).mono ?_)
    · exact hv0
    rintro e W1 ⟨N, rfl, -, -, hb⟩
    go_wp2
    go_ret2
    exact ⟨rfl, hb⟩
theorem con26 {s : ByteArray} (hs : s.size ≤ 281474976710656) : CallOk Tryd.prog (shOf 26) 26 [.v .str s] (numB s) := by
  refine .inl ⟨⟨Tryd.f26, Tryd.func26, by kernel_rfl, rfl⟩, fun w N vargs hok hv => ?_⟩
  match vargs, hv with
  | [u], ⟨hu, _⟩ =>
  rw [V_str hu]
  refine (num_calls s hs w hok).mono ?_
  rintro e w' ⟨rfl, hb⟩
  exact ⟨_, rfl, hb, _, rfl, ⟨⟨_, rfl, rfl⟩, ⟨_, rfl, rfl⟩, rfl⟩, List.nodup_nil⟩
end Go.Eng.Bk
/- refs.rising: its contract over the memory. -/
namespace Go.Eng.Bk
open Go Go.Proofs Go.Eng Go.RowKit Go.Shelf Go.Sort
set_option linter.unusedVariables false
set_option linter.unusedSimpArgs false
def rho2 : Go.Shelf.Ren := ⟨fun f => match f with
    | 16 => 48
    | x => x, fun t => match t with
    | 24 => 31
    | x => x, fun g => g⟩
theorem lay16 : Go.Proofs.Lays2.n16 Tryd.prog rho2 where
  mixed := by kernel_rfl
  f16 := by kernel_rfl
  t4 := by kernel_rfl
  a4 := fun w => isAgg_of (by kernel_rfl) w
  z4 := fun w => size_at (by kernel_rfl) (by kernel_rfl) w
  v4 := fun w => zero_at (by kernel_rfl) w
  t9 := by kernel_rfl
  a9 := fun w => isAgg_of (by kernel_rfl) w
  z9 := fun w => size_at (by kernel_rfl) (by kernel_rfl) w
  v9 := fun w => zero_at (by kernel_rfl) w
  t24 := by kernel_rfl
  a24 := fun w => isAgg_of (by kernel_rfl) w
  z24 := fun w => size_at (by kernel_rfl) (by kernel_rfl) w
  v24 := fun w => zero_at (by kernel_rfl) w
  i9 := by kernel_rfl
theorem len_zero (w : World) : Calls Tryd.prog 58 #[.int .u64 0] w fun e w' => e = .returned (.int .i64 0) ∧ w' = w :=
  calls_of_every_depth fun D => AnyS.bits_LenInS { lay190 with } D 0 w (by omega) (by omega)
theorem ins_none (p : Option Addr) (cap : Nat) (w : World) :
    Calls Tryd.prog 72 #[.slice p 0 cap, .int .i64 0, .int .i64 0] w fun e w' => e = .returned (.tuple #[]) ∧ w' = w := by
  go_enter Tryd.func72, Tryd.ntmps72
  go_wp2
  refine wp_loop_rounds 1 ?_
  rw [rounds_succ]
  go_wp2
  go_end0
  exact ⟨rfl, rfl⟩
set_option maxRecDepth 100000 in
theorem pdq_none (p : Option Addr) (cap : Nat) (w : World) :
    Calls Tryd.prog 57 #[.slice p 0 cap, .int .i64 0, .int .i64 0, .int .i64 0] w fun e w' => e = .returned (.tuple #[]) ∧ w' = w := by
  go_enter Tryd.func57, Tryd.ntmps57
  go_wp2
  refine wp_loop_rounds 1 ?_
  rw [rounds_succ]
  go_wp2_with (first | (go_at_call 72; refine (ins_none p cap _).mono ?_; rintro e w' ⟨rfl, rfl⟩))
  refine bodyPost_ret (results_none rfl _ _ _) rfl ?_
  exact ⟨rfl, rfl⟩
set_option maxRecDepth 100000 in
theorem sort_none (p : Option Addr) (cap : Nat) (w : World) :
    Calls Tryd.prog 47 #[.slice p 0 cap] w fun e w' => e = .returned (.tuple #[]) ∧ w' = w := by
  go_enter Tryd.func47, Tryd.ntmps47
  go_wp2_with (first
    | (go_at_call 58; refine (len_zero _).mono ?_; rintro e w' ⟨rfl, rfl⟩)
    | (go_at_call 57; refine (pdq_none p cap _).mono ?_; rintro e w' ⟨rfl, rfl⟩))
  go_end0
  exact ⟨rfl, rfl⟩
end Go.Eng.Bk
/- refs.rising: names in order, each once. -/
namespace Go.Eng.Bk
open Go Go.Proofs Go.Eng Go.RowKit Go.Shelf Go.Sort
set_option linter.unusedVariables false
set_option linter.unusedSimpArgs false
set_option maxRecDepth 100000
/-- All stands but one block, and new ones. -/
structure Turned (g : Nat) (w w' : World) : Prop where
  os : w'.os = w.os
  tape : w'.tape = w.tape
  output : w'.output = w.output
  size : w.heap.size ≤ w'.heap.size
  block : ∀ k, k < w.heap.size → k ≠ g → w'.heap[k]? = w.heap[k]?
theorem Turned.trans {g : Nat} {a b c : World} (h : Turned g a b) (k : Turned g b c) : Turned g a c :=
  ⟨k.os.trans h.os, k.tape.trans h.tape, k.output.trans h.output, Nat.le_trans h.size k.size, fun i hi hg => (k.block i (Nat.lt_of_lt_of_le hi h.size) hg).trans (h.block i hi hg)⟩
theorem Turned.of_below {g : Nat} {w w' : World} (h : Below w.heap.size w w') : Turned g w w' := ⟨h.os, h.tape, h.output, h.size, fun k hk _ => h.block k hk⟩
theorem Turned.below {g B : Nat} {a w w' : World} (h : Turned g w w') (hb : Below B a w) (hg : B ≤ g) (hB : B ≤ w.heap.size) : Below B a w' :=
  ⟨h.os.trans hb.os, h.tape.trans hb.tape, h.output.trans hb.output, Nat.le_trans hb.size h.size, fun k hk => (h.block k (Nat.lt_of_lt_of_le hk hB) (by omega)).trans (hb.block k hk)⟩
theorem turned_put (w : World) (n g off : Nat) (d : Array (List UInt8)) (os : Array Obj) : Turned g w (grow (putRow encStr (Sort.ahead w n) g off d) os) := by
  refine ⟨rfl, rfl, rfl, by simp, fun k hk hg => ?_⟩
  rw [heap_grow_old _ _ (by simpa using hk)]
  show (w.heap.modify g _)[k]? = _
  rw [Array.getElem?_modify, if_neg (Ne.symm hg)]
theorem rising_calls {w : World} {B : Nat} {l : List ByteArray} {v : Value} (ho : w.ownsRow B 9 1 v l.length (l.map Value.string)) (hn : l.length * 16 ≤ 140737488355328) :
    Calls Tryd.prog 35 #[v] w fun e w' => ∃ u, e = .returned u ∧ (∀ g, v.ownBlock = some g → Turned g w w') ∧ (v.ownBlock = none → Below w.heap.size w w') ∧ w'.ownsRow w.heap.size 9 1 u (rising l).length ((rising l).map Value.string) := by
  have hzero : ∀ (p : Option Addr) (cap : Nat) (w' : World) (u : Value), l = [] → w'.ownsRow w.heap.size 9 1 u 0 [] → w'.ownsRow w.heap.size 9 1 u (rising l).length ((rising l).map Value.string) := by
    rintro p cap w' u rfl h
    have e : rising [] = [] := by unfold rising sortB; rw [List.map_nil, List.mergeSort_nil]; rfl
    rw [e]
    exact h
  rcases ho.2 with ⟨rfl, h0⟩ | ⟨g, cap, cur, rfl, hg, hh, hn', hcm, hcs, htk⟩
  · have hl : l = [] := List.eq_nil_of_length_eq_zero h0
    go_enter Tryd.func35, Tryd.ntmps35
    go_wp2_with (first
      | (go_at_call 47; refine (sort_none none 0 _).mono ?_; rintro e w' ⟨rfl, rfl⟩)
      | (go_at_call 49; refine (Any.slices_Compact_string_empty lay194 none 0 _).mono ?_; rintro e w' ⟨rfl, rfl⟩)
      | (go_at_call 48; refine (Any.slices_Clone_string_nil lay16 0 0 _).mono ?_; rintro e w' ⟨rfl, rfl⟩))
    go_ret
    exact ⟨_, rfl, fun g hg => by simp [Value.ownBlock] at hg, fun _ => Below.refl _ _, hzero none 0 _ _ hl ⟨rfl, .inl ⟨rfl, rfl⟩⟩⟩
  · have hgw : g < w.heap.size := (Array.getElem?_eq_some_iff.1 hh).1
    by_cases h0 : l.length = 0
    · have hl : l = [] := List.eq_nil_of_length_eq_zero h0
      rw [h0]
      go_enter Tryd.func35, Tryd.ntmps35
      go_wp2_with (first
        | (go_at_call 47; refine (sort_none (some ⟨g, 0, none⟩) cap _).mono ?_; rintro e w' ⟨rfl, rfl⟩)
        | (go_at_call 49; refine (Any.slices_Compact_string_empty lay194 (some ⟨g, 0, none⟩) cap _).mono ?_; rintro e w' ⟨rfl, rfl⟩)
        | (go_at_call 48; refine (Any.slices_Clone_string_zero lay16 ⟨g, 0, none⟩ cap _).mono ?_; rintro e w' ⟨u, rfl, hu, _, hb⟩))
      go_ret
      exact ⟨_, rfl, fun g hg => .of_below hb, fun _ => hb, hzero none 0 _ _ hl hu⟩
    · have hsl : ∀ x ∈ ([] : List Nat), False := fun x h => by cases h
      have hH : Holds encStr w g 0 (l.map fun s => s.data.toList).toArray := by
        intro j hj
        have hj' : j < l.length := by simpa using hj
        have e : (l.map fun s => s.data.toList).toArray[j]! = l[j].data.toList := by
          rw [getElem!_pos _ j hj]
          simp
        refine ⟨?_, ?_⟩
        · have hadd : (⟨g, 0, none⟩ : Addr).add j = ⟨g, 0 + j, none⟩ := by unfold Addr.add; split <;> simp_all
          rw [← hadd, e]
          refine ho.cells rfl j _ ?_
          rw [List.getElem?_map, List.getElem?_eq_getElem hj']
          rfl
        · simp only [World.frozen?, hh]
          simp
      have hlen : (l.map fun s => s.data.toList).length = l.length := List.length_map _
      obtain ⟨zs, hzs⟩ : ∃ zs, (l.map fun s => s.data.toList) = zs := ⟨_, rfl⟩
      rw [hzs] at hH hlen
      obtain ⟨ys, hys⟩ : ∃ ys, (zs.mergeSort fun x y => decide (x ≤ y)) = ys := ⟨_, rfl⟩
      have hyl : ys.length = l.length := by rw [← hys, List.length_mergeSort, hlen]
      obtain ⟨us, hus⟩ : ∃ us, Lib.compact ys = us := ⟨_, rfl⟩
      have hul : us.length ≤ l.length := by rw [← hus, ← hyl]; exact Lib.compact_length_le ys
      have hr : rising l = us.map fun u => ByteArray.mk u.toArray := by
        unfold rising sortB cmpct
        rw [hzs, hys, List.map_map]
        rw [show (fun s : ByteArray => s.data.toList) ∘ (fun u : List UInt8 => ByteArray.mk u.toArray) = id from rfl, List.map_id, hus]
      have hS : Calls Tryd.prog 47 #[.slice (some ⟨g, 0, none⟩) l.length cap] w fun e w' => e = .returned (.tuple #[]) ∧ ∃ n os, w' = grow (putRow encStr (Sort.ahead w n) g 0 ys.toArray) os := by
        have h := Any.slices_Sort_string lay190 g 0 cap zs w hH hgw (by omega)
        rw [hlen, hys] at h
        exact h
      obtain ⟨xs, hxs⟩ : ∃ xs, us ++ List.replicate (l.length - us.length) [] = xs := ⟨_, rfl⟩
      have hxl : xs.length = l.length := by rw [← hxs, List.length_append, List.length_replicate]; omega
      have hC : ∀ w1, Holds encStr w1 g 0 ys.toArray → Calls Tryd.prog 49 #[.slice (some ⟨g, 0, none⟩) l.length cap] w1 fun e w' => e = .returned (.slice (some ⟨g, 0, none⟩) us.length cap) ∧ ∃ q, w' = putRow encStr (Sort.ahead w1 q) g 0 xs.toArray := by
        intro w1 h1
        have h := Any.slices_Compact_string lay194 g 0 cap ys w1 h1 (by omega) (by omega)
        rw [hyl, hus, hxs] at h
        exact h
      have hrl : (rising l).length = us.length := by rw [hr, List.length_map]
      have hD : ∀ w2, Holds encStr w2 g 0 xs.toArray → Calls Tryd.prog 48 #[.slice (some ⟨g, 0, none⟩) us.length cap] w2 fun e w' => ∃ v', e = .returned v' ∧ w'.ownsRow w2.heap.size 9 1 v' (rising l).length ((rising l).map Value.string) ∧ Below w2.heap.size w2 w' := by
        intro w2 h2
        refine (Any.slices_Clone_string lay16 g 0 us.length cap (rising l) w2 (by omega) (by omega) (fun j hj => ?_)).mono ?_
        · have hj2 : j < us.length := by omega
          have := (h2 j (by rw [List.size_toArray]; omega)).1
          rw [this, getElem!_pos _ j (by rw [List.size_toArray]; omega)]
          have e1 : xs.toArray[j]'(by rw [List.size_toArray]; omega) = us[j] := by
            rw [List.getElem_toArray]
            subst hxs
            exact List.getElem_append_left hj2
          rw [e1]
          show some (Value.string _) = some (Value.string _)
          rw [List.getD_eq_getElem?_getD, hr, List.getElem?_map, List.getElem?_eq_getElem hj2]
          rfl
        · rintro e w' ⟨v', rfl, h3, _, h4⟩
          rw [List.take_of_length_le (by omega), ← hrl] at h3
          exact ⟨v', rfl, h3, h4⟩
      have hh1 : ∀ (q1 : Nat) (os : Array Obj), Holds encStr (grow (putRow encStr (Sort.ahead w q1) g 0 ys.toArray) os) g 0 ys.toArray := fun q1 os =>
        holds_grow _ _ _ _ _ _ (by simpa using hgw) (holds_putRow encStr (Sort.ahead w q1) g 0 zs.toArray ys.toArray hH (by rw [List.size_toArray, List.size_toArray]; omega))
      have hh2 : ∀ (w1 : World) (q : Nat), Holds encStr w1 g 0 ys.toArray → Holds encStr (putRow encStr (Sort.ahead w1 q) g 0 xs.toArray) g 0 xs.toArray := fun w1 q h =>
        holds_putRow encStr (Sort.ahead w1 q) g 0 ys.toArray xs.toArray h (by rw [List.size_toArray, List.size_toArray]; omega)
      go_enter Tryd.func35, Tryd.ntmps35
      go_wp2_with (first
        | (go_at_call 47; refine hS.mono ?_; rintro e w1 ⟨rfl, q1, os, rfl⟩)
        | (go_at_call 49; refine (hC _ (hh1 q1 os)).mono ?_; rintro e w2 ⟨rfl, q2, rfl⟩)
        | (go_at_call 48; refine (hD _ (hh2 _ q2 (hh1 q1 os))).mono ?_; rintro e w3 ⟨v', rfl, h3, h4⟩))
      go_ret
      have ht1 := turned_put w q1 g 0 ys.toArray os
      have ht2 := turned_put (grow (putRow encStr (Sort.ahead w q1) g 0 ys.toArray) os) q2 g 0 xs.toArray #[]
      rw [grow_empty] at ht2
      have ht := (ht1.trans ht2).trans (Turned.of_below h4)
      refine ⟨_, rfl, fun g' hg' => ?_, fun h => by simp [Value.ownBlock] at h, ?_⟩
      · have : g = g' := by simpa [Value.ownBlock] using hg'
        subst this
        exact ht
      · refine ⟨h3.1, h3.2.imp id ?_⟩
        rintro ⟨g2, c2, cur2, e1, e2, e3⟩
        exact ⟨g2, c2, cur2, e1, Nat.le_trans (ht1.trans ht2).size e2, e3⟩
end Go.Eng.Bk
/- refs.Near, refs.Far: the code but for the last region; what the machine says of it. -/
namespace Go.Eng.Bk
open Go Go.Proofs Go.Eng
set_option linter.unusedVariables false
set_option maxRecDepth 100000
noncomputable def sq1 : Code → Code | .seq a _ => a | c => c
noncomputable def sq2 : Code → Code | .seq _ b => b | c => c
noncomputable def code15 : Code := (Tryd.f15.body).getD .skip
noncomputable def pre15 : Code := .seq (sq1 code15) (.seq (sq1 (sq2 code15)) (sq1 (sq2 (sq2 code15))))
noncomputable def end15 : Code := sq1 (sq2 (sq2 (sq2 code15)))
theorem code15_eq : Tryd.f15.body = some (.seq (sq1 code15) (.seq (sq1 (sq2 code15)) (.seq (sq1 (sq2 (sq2 code15))) (.seq end15 .ret)))) := by kernel_rfl
noncomputable def code18 : Code := (Tryd.f18.body).getD .skip
noncomputable def c18a : Code := sq1 code18
noncomputable def c18b : Code := sq1 (sq2 code18)
noncomputable def c18c : Code := sq1 (sq2 (sq2 code18))
noncomputable def c18d : Code := sq1 (sq2 (sq2 (sq2 code18)))
noncomputable def c18e : Code := sq1 (sq2 (sq2 (sq2 (sq2 code18))))
noncomputable def end18 : Code := sq1 (sq2 (sq2 (sq2 (sq2 (sq2 code18)))))
theorem code18_eq : Tryd.f18.body = some (.seq c18a (.seq c18b (.seq c18c (.seq c18d (.seq c18e (.seq end18 .ret)))))) := by kernel_rfl
noncomputable def pre18 : Code := .seq c18a (.seq c18b (.seq c18c (.seq c18d c18e)))
end Go.Eng.Bk
/- ENGINE, part W: what reckonings by hand lean on: a body's start and its end; blocks that are no cells may turn; code in a round of a range over a function. -/
namespace Go.Eng
open Go Go.RowKit
abbrev mp0 : Mp := { G := fun _ => none, E := fun _ => 0, U := fun _ => False, B := fun _ => 0 }
abbrev st0 (args : List AV) (n : Nat) : St := { t := args ++ List.replicate (n - args.length) (.raw undef), bx := [], live := 0, g := [] }
theorem start_inv {w : World} {N : Nat → Prop} {args : List AV} {vargs : List Value} (hok : okW w) (hv : all2 (V (argVw w N)) args vargs) (n : Nat) :
    Inv w ⟨N, [], []⟩ (fun k => k < 0) (st0 args n) mp0 { tmps := vargs.toArray ++ Array.replicate (n - vargs.toArray.size) undef, defers := [] } w := by
  have hlen := all2_len hv
  have hto : (argVw w N).To (vw w ⟨N, [], []⟩ (st0 args n) mp0 w) := by
    have hNN : ∀ b, (argVw w N).N b → (vw w ⟨N, [], []⟩ (st0 args n) mp0 w).N b :=
      fun b hb => ⟨hb.1, fun _ => hb.2, (fun τ _ h => by cases h), (fun i T cs hi => by simp at hi)⟩
    exact ⟨rfl, fun b hb => ⟨hNN b hb, rfl⟩, fun b hi hb => ⟨hb.imp (hNN b) (fun ⟨_, h, _⟩ => h.elim), fun _ _ => rfl⟩, fun τ h => h.elim, fun b h => h.elim⟩
  refine ⟨Below.refl _ _, rfl, ?_, ?_, ?_, ?_, ?_, ?_, ?_, ?_, ?_, ?_, trivial, (fun p hp => by cases hp), hok⟩
  · simp [hlen]
  · intro i x v hx hu
    have hu' : (vargs ++ List.replicate (n - vargs.length) undef)[i]? = some v := by
      rw [← Array.getElem?_toList] at hu
      simpa using hu
    have hx' : (args ++ List.replicate (n - args.length) (.raw undef))[i]? = some x := hx
    by_cases hi : i < args.length
    · rw [List.getElem?_append_left hi] at hx'
      rw [List.getElem?_append_left (by omega)] at hu'
      obtain ⟨u, e1, e2⟩ := all2_get hv hx'
      rw [hu'] at e1
      cases e1
      exact hto.v e2
    · rw [List.getElem?_append_right (by omega), List.getElem?_replicate] at hx'
      rw [List.getElem?_append_right (by omega), List.getElem?_replicate] at hu'
      split at hx'
      · split at hu'
        · cases hx'; cases hu'; rfl
        · cases hu'
      · cases hx'
  · intro τ k hl; simp [hasBit] at hl
  · intro τ τ' k hl; simp [hasBit] at hl
  · intro b T cs hb; simp at hb
  · intro b T cs b' T' cs' hb; simp at hb
  · intro τ k b T cs hl; simp [hasBit] at hl
  · intro τ h; exact h.elim
  · intro b T cs hb; simp at hb
  · intro τ hl; simp [hasBit] at hl
/-- A body's end: what the machine answers. -/
theorem fin_ret {Γ : Ctx} {w w' : World} {N : Nat → Prop} {fn : Func} {sh : Sh} {r : sh.den} {D : Nat → Prop} {s : St} {m : Mp} {a : Act} {xs : List AV} (hi : Inv w ⟨N, [], []⟩ D s m a w') (h1 : resL Γ s fn.results.toList = some xs) (h2 : finX sh (giveN sh.parts s.live xs).2 (giveN sh.parts s.live xs).1 = some r) :
    ∃ v, (results fn a.tmps).run Γ.P w' = .ok v w' ∧ Below w.heap.size w w' ∧ ResV w w' (resN sh N) sh r v := by
  obtain ⟨vs, hvs1, hvs2⟩ := resL_sound hi h1
  exact ⟨_, run_results fn a.tmps hvs1, hi.below, fin_sound2 hi h2 hvs2⟩
theorem fin_post {Γ : Ctx} {w : World} {N : Nat → Prop} {fn : Func} {sh : Sh} {r : sh.den} {e : Exit} {a' : Act} {w' : World} (hq : CPost (finA Γ fn sh) r w ⟨N, [], []⟩ e a' w') :
    bodyPost Γ.P fn (fun e w' => ∃ v, e = .returned v ∧ Below w.heap.size w w' ∧ ResV w w' (resN sh N) sh r v) e a' w' := by
  obtain ⟨e', s', m', h1, h2, h3⟩ := hq
  have fin : ∀ {e' : AEx}, finA Γ fn sh e' s' = some r → a'.defers = [] ∧ ∃ v, (results fn a'.tmps).run Γ.P w' = .ok v w' ∧ ∃ v', Ending.returned v = .returned v' ∧ Below w.heap.size w w' ∧ ResV w w' (resN sh N) sh r v' := by
    intro e' h1
    have h1' : ∃ xs, resL Γ s' fn.results.toList = some xs ∧ finX sh (giveN sh.parts s'.live xs).2 (giveN sh.parts s'.live xs).1 = some r := by
      cases e' with
      | exit _ => cases h1
      | normal =>
        simp only [finA] at h1
        split at h1
        · rename_i xs hxs; exact ⟨xs, hxs, h1⟩
        · cases h1
      | ret =>
        simp only [finA] at h1
        split at h1
        · rename_i xs hxs; exact ⟨xs, hxs, h1⟩
        · cases h1
    obtain ⟨xs, hxs, hr⟩ := h1'
    obtain ⟨v, k1, k2, k3⟩ := fin_ret h3 hxs hr
    exact ⟨h3.defers, v, k1, v, rfl, k2, k3⟩
  cases e with
  | normal => exact fin h1
  | ret => exact fin h1
  | exit id => cases e' <;> first | exact h2.elim | skip; cases h1
  | _ => cases e' <;> exact h2.elim
end Go.Eng
/- refs.Near, refs.Far: the loops; what the machine says up to the last region. -/
namespace Go.Eng.Bk
open Go Go.Proofs Go.Eng
set_option linter.unusedVariables false
set_option linter.unusedSimpArgs false
set_option maxRecDepth 100000
abbrev Ver.tabs (v : Ver) : List Tab := v.2.2.2.2.1
abbrev noTab : Tab := ((0 : Int), (0 : Int), (0 : Int), (ByteArray.mk #[]), (ByteArray.mk #[]), (0 : Int), (0 : Int), false, false, ())
theorem drop_tab {l : List Tab} {i : Nat} (h : i < l.length) : l.drop i = l.getD i noTab :: l.drop (i + 1) := by
  rw [List.drop_eq_getElem_cons h, List.getD_eq_getElem?_getD, List.getElem?_eq_getElem h]; rfl
theorem bb {α β γ : Type} {o : Option α} {f : α → Option β} {g : β → Option γ} {h : α → Option γ} (hh : ∀ x, h x = (f x).bind g) : o.bind h = (o.bind f).bind g := by
  cases o with
  | none => rfl
  | some x => exact hh x
theorem bind_map {α β γ : Type} {o : Option α} {f : α → β} {g : β → Option γ} : (o.map f).bind g = o.bind fun x => g (f x) := by cases o <;> rfl
theorem w64' {x : Int} (h0 : 0 ≤ x) (h1 : x ≤ 1000000) : IntKind.i64.wrap (x + 1) = x + 1 := by
  have hb : IntKind.i64.bits = 64 := rfl
  have hs : IntKind.i64.signed = true := rfl
  unfold IntKind.wrap
  rw [hb, hs]
  simp
  omega
section
variable {call : CallT B} {inl : InlT}
theorem nearTabs_cons (t : Tab) (r : List Tab) : nearTabs call (t :: r) = if t.2.2.2.2.2.2.2.1 = true then (call 11 [.v i64 (2 : Int), .v i64 (0 : Int), .v i64 t.1]).bind fun (s : ByteArray) => (nearTabs call r).map fun l => s :: l else nearTabs call r := rfl
theorem farTabs_cons (all : Bool) (t : Tab) (r : List Tab) : farTabs call all (t :: r) = if all = true ∨ t.2.2.2.2.2.2.2.2.1 = true then (call 11 [.v i64 (7 : Int), .v i64 t.2.1, .v i64 t.1]).bind fun (s : ByteArray) => (farTabs call all r).map fun l => s :: l else farTabs call all r := rfl
theorem l15 {R : Type} (K : AEx → St → Option R) (v : Ver) (hl : v.tabs.length ≤ 1000000) (d : Nat) : ∀ (i m : Nat) (x : List ByteArray), i + d = v.tabs.length → x.length ≤ i + 3 → d < m →
    LP B call inl 15 m [1, 1, 0, 1] (s15_6 v x (i : Int)) K = (nearTabs call (v.tabs.drop i)).bind fun l => K (.exit 0) (s15_6x8 v (x ++ l)) := by
  induction d with
  | zero =>
    intro i m x hd hx hm
    obtain ⟨m, rfl⟩ : ∃ k, m = k + 1 := ⟨m - 1, by omega⟩
    rw [s15_6_l, bF (show ¬ ((i : Int) < (↑(List.length v.tabs) : Int)) by omega), List.drop_of_length_le (by omega)]
    show _ = K (.exit 0) (s15_6x8 v (x ++ []))
    rw [List.append_nil]
  | succ d ih =>
    intro i m x hd hx hm
    obtain ⟨m, rfl⟩ : ∃ k, m = k + 1 := ⟨m - 1, by omega⟩
    rw [s15_6_l, bT (show ((i : Int) < (↑(List.length v.tabs) : Int)) by omega), if_pos (show (0 : Int) ≤ (i : Int) ∧ (i : Int) < (↑(List.length v.tabs) : Int) by omega), Int.toNat_natCast, w64' (by omega) (by omega), drop_tab (show i < v.tabs.length by omega)]
    obtain ⟨t, ht⟩ : ∃ t, v.tabs.getD i noTab = t := ⟨_, rfl⟩
    rw [show List.getD v.snd.snd.snd.snd.fst i ((0 : Int), (0 : Int), (0 : Int), (ByteArray.mk #[]), (ByteArray.mk #[]), (0 : Int), (0 : Int), false, false, ()) = t from ht, cif]
    rw [nearTabs_cons]
    by_cases hn : t.2.2.2.2.2.2.2.1 = true
    · rw [if_pos hn, if_pos hn]
      refine bb fun (s : ByteArray) => ?_
      rw [bind_map, if_pos (by simp only [List.length_cons, List.length_nil]; omega)]
      refine (ih (i + 1) m (x ++ [s]) (by omega) (by simp only [List.length_append, List.length_cons, List.length_nil]; omega) (by omega)).trans ?_
      simp only [List.append_assoc, List.cons_append, List.nil_append]
    · rw [if_neg hn, if_neg hn]
      exact ih (i + 1) m x (by omega) (by omega) (by omega)
theorem l18a {R : Type} (K : AEx → St → Option R) (v w : Ver) (num : Int) (hl : v.tabs.length ≤ 1000000) (d : Nat) : ∀ (i m : Nat) (x : List ByteArray), i + d = v.tabs.length → x.length ≤ i → d < m →
    LP B call inl 18 m [1, 1, 0, 1] (s18_4 v w num x (i : Int)) K = (farTabs call false (v.tabs.drop i)).bind fun l => K (.exit 0) (s18_4x6 w num (x ++ l)) := by
  induction d with
  | zero =>
    intro i m x hd hx hm
    obtain ⟨m, rfl⟩ : ∃ k, m = k + 1 := ⟨m - 1, by omega⟩
    rw [s18_4_l, bF (show ¬ ((i : Int) < (↑(List.length v.tabs) : Int)) by omega), List.drop_of_length_le (by omega)]
    show _ = K (.exit 0) (s18_4x6 w num (x ++ []))
    rw [List.append_nil]
  | succ d ih =>
    intro i m x hd hx hm
    obtain ⟨m, rfl⟩ : ∃ k, m = k + 1 := ⟨m - 1, by omega⟩
    rw [s18_4_l, bT (show ((i : Int) < (↑(List.length v.tabs) : Int)) by omega), if_pos (show (0 : Int) ≤ (i : Int) ∧ (i : Int) < (↑(List.length v.tabs) : Int) by omega), Int.toNat_natCast, w64' (by omega) (by omega), drop_tab (show i < v.tabs.length by omega)]
    obtain ⟨t, ht⟩ : ∃ t, v.tabs.getD i noTab = t := ⟨_, rfl⟩
    rw [show List.getD v.snd.snd.snd.snd.fst i ((0 : Int), (0 : Int), (0 : Int), (ByteArray.mk #[]), (ByteArray.mk #[]), (0 : Int), (0 : Int), false, false, ()) = t from ht, cif]
    rw [farTabs_cons]
    by_cases hn : t.2.2.2.2.2.2.2.2.1 = true
    · rw [if_pos hn, if_pos (.inr hn)]
      refine bb fun (s : ByteArray) => ?_
      rw [bind_map, if_pos (by simp only [List.length_cons, List.length_nil]; omega)]
      refine (ih (i + 1) m (x ++ [s]) (by omega) (by simp only [List.length_append, List.length_cons, List.length_nil]; omega) (by omega)).trans ?_
      simp only [List.append_assoc, List.cons_append, List.nil_append]
    · rw [if_neg hn, if_neg (by simp [hn])]
      exact ih (i + 1) m x (by omega) (by omega) (by omega)
theorem l18b {R : Type} (K : AEx → St → Option R) (w : Ver) (num : Int) (hl : w.tabs.length ≤ 1000000) (d : Nat) : ∀ (i m : Nat) (x : List ByteArray), i + d = w.tabs.length → x.length ≤ i + 1000000 → d < m →
    LP B call inl 18 m [1, 1, 1, 0, 1] (s18_12 w num x (i : Int)) K = (farTabs call true (w.tabs.drop i)).bind fun l => K (.exit 2) (s18_12x14 num (x ++ l)) := by
  induction d with
  | zero =>
    intro i m x hd hx hm
    obtain ⟨m, rfl⟩ : ∃ k, m = k + 1 := ⟨m - 1, by omega⟩
    rw [s18_12_l, bF (show ¬ ((i : Int) < (↑(List.length w.tabs) : Int)) by omega), List.drop_of_length_le (by omega)]
    show _ = K (.exit 2) (s18_12x14 num (x ++ []))
    rw [List.append_nil]
  | succ d ih =>
    intro i m x hd hx hm
    obtain ⟨m, rfl⟩ : ∃ k, m = k + 1 := ⟨m - 1, by omega⟩
    rw [s18_12_l, bT (show ((i : Int) < (↑(List.length w.tabs) : Int)) by omega), if_pos (show (0 : Int) ≤ (i : Int) ∧ (i : Int) < (↑(List.length w.tabs) : Int) by omega), Int.toNat_natCast, w64' (by omega) (by omega), drop_tab (show i < w.tabs.length by omega)]
    obtain ⟨t, ht⟩ : ∃ t, w.tabs.getD i noTab = t := ⟨_, rfl⟩
    rw [show List.getD w.snd.snd.snd.snd.fst i ((0 : Int), (0 : Int), (0 : Int), (ByteArray.mk #[]), (ByteArray.mk #[]), (0 : Int), (0 : Int), false, false, ()) = t from ht]
    rw [farTabs_cons]
    rw [if_pos (.inl rfl)]
    refine bb fun (s : ByteArray) => ?_
    rw [bind_map, if_pos (by simp only [List.length_cons, List.length_nil]; omega)]
    refine (ih (i + 1) m (x ++ [s]) (by omega) (by simp only [List.length_append, List.length_cons, List.length_nil]; omega) (by omega)).trans ?_
    simp only [List.append_assoc, List.cons_append, List.nil_append]
end
section
variable (call : CallT B) (inl : InlT)
noncomputable def k15 (n : Nat) : AEx → St → Option (AEx × St) := kontAt (mkC B call inl) (B.keep 15) (iter (mkC B call inl) (B.keep 15) n) pre15 [1, 1, 1] pairK
theorem p15 (n : Nat) (v : Ver) (list : ByteArray) : aCode (mkC B call inl) (B.keep 15) (iter (mkC B call inl) (B.keep 15) n) pre15 (st0 [argAV VerT v, argAV .str list] 33) pairK =
    ((call 11 [.v i64 (6 : Int), .v i64 (0 : Int), .v i64 (0 : Int)]).bind fun (c : ByteArray) => (call 11 [.v i64 (4 : Int), .v i64 (0 : Int), .v i64 (0 : Int)]).bind fun (d : ByteArray) => LP B call inl 15 n [1, 1, 0, 1] (s15_6 v [c, d, list] 0) (k15 call inl n)) := by kernel_rfl
theorem q15 (n : Nat) (v : Ver) (x : List ByteArray) : k15 call inl n (.exit 0) (s15_6x8 v x) = some (.normal, s15_6x8 v x) := by kernel_rfl
noncomputable def k18a (n : Nat) : AEx → St → Option (AEx × St) := kontAt (mkC B call inl) (B.keep 18) (iter (mkC B call inl) (B.keep 18) n) pre18 [1, 1, 0, 1] pairK
noncomputable def k18b (n : Nat) : AEx → St → Option (AEx × St) := kontAt (mkC B call inl) (B.keep 18) (iter (mkC B call inl) (B.keep 18) n) pre18 [1, 1, 1, 0, 1] pairK
def sE0 (num : Int) (l : List ByteArray) : St := ⟨[.bad, .bad, .v i64 num, .bad, .bad, .bad, .nilS, .own 0 9 .str l] ++ List.replicate 38 .bad ++ [.v i64 num, .v .bool (decide (num > (0 : Int)))] ++ List.replicate 7 (.raw undef), List.replicate 4 none, 1, []⟩
def sE1 (num : Int) (l : List ByteArray) (s : ByteArray) : St := ⟨[.bad, .bad, .v i64 num, .bad, .bad, .bad, .nilS, .own 64 9 .str (l ++ [s])] ++ List.replicate 38 .bad ++ [.v i64 num, .v .bool (decide (num > (0 : Int))), .own 0 9 .str l, .v i64 num, .v .str s, .own 56 9 .str [s], .own 64 9 .str (l ++ [s])] ++ List.replicate 2 (.raw undef), List.replicate 10 none, 18518801667747479552, []⟩
theorem q18a (n : Nat) (w : Ver) (num : Int) (x : List ByteArray) : k18a call inl n (.exit 0) (s18_4x6 w num x) = LP B call inl 18 n [1, 1, 1, 0, 1] (s18_12 w num x 0) (k18b call inl n) := by kernel_rfl
theorem q18b (n : Nat) (num : Int) (x : List ByteArray) : k18b call inl n (.exit 2) (s18_12x14 num x) = (bif decide (num > (0 : Int)) then ((call 11 [.v i64 (8 : Int), .v i64 (0 : Int), .v i64 num]).bind fun (s : ByteArray) => if (x.length + [s].length) * (16 : Nat) ≤ 140737488355328 then some (.normal, sE1 num x s) else none) else some (.normal, sE0 num x)) := by kernel_rfl
theorem p18 (n : Nat) (v w : Ver) (num : Int) : aCode (mkC B call inl) (B.keep 18) (iter (mkC B call inl) (B.keep 18) n) pre18 (st0 [argAV VerT v, argAV VerT w, argAV i64 num] 55) pairK = LP B call inl 18 n [1, 1, 0, 1] (s18_4 v w num [] 0) (k18a call inl n) := by kernel_rfl
end
end Go.Eng.Bk
/- refs.Far: its contract. -/
namespace Go.Eng.Bk
open Go Go.Proofs Go.Eng Go.RowKit
set_option linter.unusedVariables false
set_option linter.unusedSimpArgs false
set_option maxRecDepth 100000
section
variable {Γ : Ctx} {keep : Hints} {L : LoopK (AEx × St)} {w0 : World} {Nin : Env} {a b b' : Code} {s r : St} {m : Mp} {act : Act} {w : World} {Q : Exit → Act → World → Prop}
theorem seq_walk (hΓ : CallsOk Γ) (hL : LOk Γ L) (h : aCode Γ keep L (.seq a b) s pairK = some (.normal, r)) (hi : Inv w0 Nin (fun k => k < s.bx.length) s m act w)
    (hb : ∀ s' m' a' w', aCode Γ keep L b s' pairK = some (.normal, r) → Inv w0 Nin (fun k => k < s'.bx.length) s' m' a' w' → b'.wp Γ.P Q a' w') : (Code.seq a b').wp Γ.P Q act w := by
  refine wp_seq (wp_mono (aCode_sound hΓ hL a s _ h m act w hi) (fun e a1 w1 hq => ?_))
  obtain ⟨e', s', m', q1, q2, q3⟩ := hq
  cases e' with
  | normal =>
    cases e <;> first | exact q2.elim | skip
    exact hb s' m' a1 w1 q1 q3
  | _ => cases q1
theorem last_walk (hΓ : CallsOk Γ) (hL : LOk Γ L) (h : aCode Γ keep L a s pairK = some (.normal, r)) (hi : Inv w0 Nin (fun k => k < s.bx.length) s m act w)
    (hb : ∀ m' a' w', Inv w0 Nin (fun k => k < r.bx.length) r m' a' w' → b'.wp Γ.P Q a' w') : (Code.seq a b').wp Γ.P Q act w := by
  refine wp_seq (wp_mono (aCode_sound hΓ hL a s _ h m act w hi) (fun e a1 w1 hq => ?_))
  obtain ⟨e', s', m', q1, q2, q3⟩ := hq
  have q1' : some (e', s') = some (AEx.normal, r) := q1
  obtain ⟨rfl, rfl⟩ := Prod.mk.inj (Option.some.inj q1')
  cases e <;> first | exact q2.elim | skip
  exact hb m' a1 w1 q3
end
theorem reps_strs {w : World} {N : Nat → Prop} : ∀ (xs : List ByteArray) (cs : List Value), repsOf (rep w N .str) xs cs → cs = xs.map Value.string
  | [], _, h => h
  | x :: xs, _, ⟨c0, c1, e, h0, h1⟩ => by
    rw [e, reps_strs xs _ h1, show c0 = [.string x] from h0]
    rfl
theorem strs_reps {w : World} {N : Nat → Prop} : ∀ (xs : List ByteArray), repsOf (rep w N .str) xs (xs.map Value.string)
  | [] => rfl
  | x :: xs => ⟨[.string x], xs.map Value.string, rfl, rfl, strs_reps xs⟩
/-- One own slice, as an answer. -/
theorem res_own {w w' : World} {N : Nat → Prop} {T : TypeId} {e : Ty} {xs : List e.den} {v : Value} {inner : List Value} (ho : w'.ownsRow w.heap.size T e.sz v xs.length inner)
    (hr : repsOf (rep w' (fun b => b < w'.heap.size ∧ (b < w.heap.size → N b) ∧ b ∉ owned [(some T, .sl e)] [v]) e) xs inner) : ResV w w' N (.one (some T) (.sl e)) xs v := by
  refine ⟨⟨⟨inner, ho, hr⟩, rfl⟩, ?_⟩
  show (v.ownBlock.toList ++ []).Nodup
  cases v.ownBlock <;> simp
theorem owns_base {w : World} {B B' T sz n : Nat} {v : Value} {xs : List Value} (h : w.ownsRow B T sz v n xs) (hB : B' ≤ B) : w.ownsRow B' T sz v n xs :=
  ⟨h.1, h.2.imp id (fun ⟨g, c, cur, e1, e2, e3⟩ => ⟨g, c, cur, e1, Nat.le_trans hB e2, e3⟩)⟩
/-- What rising does with a row of the frame's own. -/
theorem rising_own {w0 w : World} {l : List ByteArray} {v : Value} {inner : List Value} (ho : w.ownsRow w0.heap.size 9 1 v l.length inner) {N : Nat → Prop} (hr : repsOf (rep w N .str) l inner) (hb : Below w0.heap.size w0 w) (hn : l.length * 16 ≤ 140737488355328) :
    Calls Tryd.prog 35 #[v] w fun e w' => ∃ u, e = .returned u ∧ Below w0.heap.size w0 w' ∧ w'.ownsRow w0.heap.size 9 1 u (rising l).length ((rising l).map Value.string) ∧ ∀ k, k < w.heap.size → v.ownBlock ≠ some k → w'.heap[k]? = w.heap[k]? := by
  have hin := reps_strs l inner hr
  subst hin
  refine (rising_calls ho hn).mono ?_
  rintro e w' ⟨u, rfl, h1, h2, h3⟩
  have h3' := owns_base h3 hb.size
  cases hv : v.ownBlock with
  | none =>
    have h := h2 hv
    exact ⟨u, rfl, hb.trans ⟨h.os, h.tape, h.output, h.size, fun k hk => h.block k (Nat.lt_of_lt_of_le hk hb.size)⟩, h3', fun k hk _ => h.block k hk⟩
  | some g =>
    have h := h1 g hv
    have hg : w0.heap.size ≤ g := by
      rcases ho.2 with ⟨rfl, _⟩ | ⟨g', c, cur, rfl, e2, _⟩
      · cases hv
      · have : g' = g := by simpa [Value.ownBlock] using hv
        subst this
        exact e2
    exact ⟨u, rfl, h.below hb hg hb.size, h3', fun k hk hne => h.block k hk (fun e => hne (by rw [e]))⟩
def opsOf : Code → Array Oper
  | .region _ ops _ => ops
  | _ => #[]
def noOper : Oper := { dst := none, op := .ready 0, type := 0, pos := "", after := #[], guard := none }
theorem wpOps_plain {P : Program} {ops : Array Oper} {Q : Exit → Act → World → Prop} {i : Nat} {rest : List Nat} {o : Oper} {a : Act} {w : World} (ho : ops[i]? = some o) (hg : o.guard = none) (h : o.wp P a w (wpOps P ops Q rest) Q) : wpOps P ops Q (i :: rest) a w := by
  simp only [wpOps, ho]
  rw [if_pos (by simp [Region.wanted, hg])]
  exact .inl h
theorem getD_put (A : Array Value) (d : Nat) (v : Value) (h : d < A.size) : (A.setIfInBounds d v).getD d undef = v := by
  rw [Array.getD_eq_getD_getElem?, Array.getElem?_setIfInBounds_self_of_lt h]; rfl
noncomputable def o18 (i : Nat) : Oper := ((opsOf end18)[i]?).getD noOper
theorem end18_eq : end18 = .region 15 (opsOf end18) false := by kernel_rfl
theorem end18_size : (opsOf end18).size = 3 := by kernel_rfl
theorem end18_0 : (opsOf end18)[0]? = some (o18 0) := by kernel_rfl
theorem end18_1 : (opsOf end18)[1]? = some (o18 1) := by kernel_rfl
theorem end18_2 : (opsOf end18)[2]? = some (o18 2) := by kernel_rfl
theorem o180_op : (o18 0).op = .move (.tmp 7) := by kernel_rfl
theorem o182_op : (o18 2).op = .assign (.tmp 54) := by kernel_rfl
theorem o181_op : ∃ c, (o18 1).op = .call c ∧ c.callee = .value (.func 35) ∧ c.args = #[.tmp 53] := ⟨(match (o18 1).op with | .call c => c | _ => { callee := .value (.func 0), args := #[], argTypes := #[] }), by kernel_rfl, by kernel_rfl, by kernel_rfl⟩
theorem o180_dst : (o18 0).dst = some 53 := by kernel_rfl
theorem o181_dst : (o18 1).dst = some 54 := by kernel_rfl
theorem o182_dst : (o18 2).dst = some 6 := by kernel_rfl
theorem o180_g : (o18 0).guard = none := by kernel_rfl
theorem o181_g : (o18 1).guard = none := by kernel_rfl
theorem o182_g : (o18 2).guard = none := by kernel_rfl
theorem fn35 : ∃ fn, Tryd.prog.funcs[35]? = some fn ∧ (fn.name == "runtime.NumGoroutine") = false ∧ fn.body.isNone = false := ⟨Tryd.f35, Tryd.func35, by kernel_rfl, rfl⟩
/-- A call of rising. -/
theorem call35 {o : Oper} {c : Call} {t : Tmp} {a : Act} {w : World} {v : Value} {K : Act → World → Prop} {Q : Exit → Act → World → Prop} {R : Ending → World → Prop} (hop : o.op = .call c) (hc : c.callee = .value (.func 35)) (hargs : c.args = #[.tmp t]) (ht : a.tmps.getD t undef = v)
    (hcall : Calls Tryd.prog 35 #[v] w R) (hK : ∀ e w', R e w' → ∃ u, e = .returned u ∧ K (a.put o.dst u) w') : o.wp Tryd.prog a w K Q := by
  obtain ⟨fn, hfn, hname, hbody⟩ := fn35
  have hname' : ¬ fn.name = "runtime.NumGoroutine" := by simpa using hname
  have hrun : (execOp a.eval o).run Tryd.prog w = .ok (.enter 35 #[v]) w := by
    simp only [execOp, hop, resolve, hc, hargs, Act.eval, Deferred.ofValue, Sem.run_bind, Sem.run_pure, Result.andThen_ok, invoke, callFunc, run_program]
    rw [hfn]
    simp only
    rw [if_neg (by simpa using hname'), if_neg (by simp [hbody])]
    simp [Act.eval, ht]
  unfold Oper.wp
  rw [hrun]
  show Calls Tryd.prog 35 _ w _
  refine hcall.mono ?_
  intro e w' hR
  obtain ⟨u, rfl, h⟩ := hK e w' hR
  exact h
theorem end18_walk {w : World} {a : Act} {v : Value} (hsz : a.tmps.size = 55) (hd : a.defers = []) (h7 : a.eval (.tmp 7) = v) {R : Ending → World → Prop}
    (hcall : Calls Tryd.prog 35 #[v] w fun e w' => ∃ u, e = .returned u ∧ R (.returned u) w') : (Code.seq end18 .ret).wp Tryd.prog (bodyPost Tryd.prog Tryd.f18 R) a w := by
  refine wp_seq ?_
  rw [end18_eq]
  refine wp_region ?_
  rw [end18_size]
  show wpOps Tryd.prog (opsOf end18) _ [0, 1, 2] a w
  refine wpOps_plain end18_0 o180_g (wp_value (v := a.eval (.tmp 7)) (w' := w) (by simp [execOp, o180_op]) ?_)
  rw [o180_dst, h7]
  refine wpOps_plain end18_1 o181_g ?_
  obtain ⟨c, hop, hc, hargs⟩ := o181_op
  refine call35 hop hc hargs (show (a.put (some 53) v).tmps.getD 53 undef = v from getD_put a.tmps 53 v (by omega)) hcall ?_
  rintro e w' ⟨u, rfl, hR⟩
  refine ⟨u, rfl, ?_⟩
  rw [o181_dst]
  show wpOps Tryd.prog (opsOf end18) _ [2] _ w'
  refine wpOps_plain end18_2 o182_g (wp_value (v := ((a.put (some 53) v).put (some 54) u).eval (.tmp 54)) (w' := w') (by simp [execOp, o182_op]) ?_)
  rw [o182_dst]
  have e54 : ((a.put (some 53) v).put (some 54) u).eval (.tmp 54) = u := getD_put _ 54 u (by show 54 < (a.tmps.setIfInBounds 53 v).size; rw [Array.size_setIfInBounds]; omega)
  rw [e54]
  show Code.ret.wp Tryd.prog _ _ w'
  refine wp_ret ?_
  refine ⟨hd, u, ?_, hR⟩
  have e6 : (((a.put (some 53) v).put (some 54) u).put (some 6) u).tmps.getD 6 undef = u := getD_put _ 6 u (by show 6 < ((a.tmps.setIfInBounds 53 v).setIfInBounds 54 u).size; rw [Array.size_setIfInBounds, Array.size_setIfInBounds]; omega)
  have hres : Tryd.f18.results = #[.tmp 6] := by kernel_rfl
  have := results_tmp hres (((a.put (some 53) v).put (some 54) u).put (some 6) u).tmps Tryd.prog w'
  rw [e6] at this
  exact this
theorem nt18 : Tryd.f18.ntmps = 55 := by kernel_rfl
theorem farTabs_len {call : CallT B} {all : Bool} : ∀ (ts : List Tab) (l : List ByteArray), farTabs call all ts = some l → l.length ≤ ts.length
  | [], l, h => by cases h; exact Nat.le_refl _
  | t :: r, l, h => by
    rw [farTabs_cons] at h
    split at h
    · obtain ⟨s, _, h⟩ := Option.bind_eq_some_iff.1 h
      obtain ⟨k, hk, rfl⟩ := Option.map_eq_some_iff.1 h
      have := farTabs_len r k hk
      show k.length + 1 ≤ r.length + 1
      omega
    · have := farTabs_len r l h
      show l.length ≤ r.length + 1
      omega
theorem far_a {call : CallT B} {inl : InlT} {n : Nat} {v x : Ver} {num : Int} {l : List ByteArray} (hv : v.tabs.length ≤ 1000000) (hn : v.tabs.length < n) (h : farTabs call false v.tabs = some l) :
    aCode (mkC B call inl) (B.keep 18) (iter (mkC B call inl) (B.keep 18) n) pre18 (st0 [argAV VerT v, argAV VerT x, argAV i64 num] 55) pairK = LP B call inl 18 n [1, 1, 1, 0, 1] (s18_12 x num l 0) (k18b call inl n) := by
  refine (p18 call inl n v x num).trans ?_
  have e := l18a (call := call) (inl := inl) (k18a call inl n) v x num hv v.tabs.length 0 n [] (by omega) (by simp) (by omega)
  rw [List.drop_zero, h, show ((0 : Nat) : Int) = 0 from rfl] at e
  refine e.trans ?_
  exact q18a call inl n x num l
theorem far_b {call : CallT B} {inl : InlT} {n : Nat} {x : Ver} {num : Int} {l k : List ByteArray} (hx : x.tabs.length ≤ 1000000) (hn : x.tabs.length < n) (hl : l.length ≤ 1000000) (h : farTabs call true x.tabs = some k) :
    LP B call inl 18 n [1, 1, 1, 0, 1] (s18_12 x num l 0) (k18b call inl n) = k18b call inl n (.exit 2) (s18_12x14 num (l ++ k)) := by
  have e := l18b (call := call) (inl := inl) (k18b call inl n) x num hx x.tabs.length 0 n l (by omega) (by omega) (by omega)
  rw [List.drop_zero, h, show ((0 : Nat) : Int) = 0 from rfl] at e
  exact e
theorem far_c {call : CallT B} {inl : InlT} {n : Nat} {num : Int} {l : List ByteArray} {s : ByteArray} (hn : (0 : Int) < num) (hl : (l.length + 1) * 16 ≤ 140737488355328) (hs : call 11 [.v i64 (8 : Int), .v i64 (0 : Int), .v i64 num] = some s) :
    k18b call inl n (.exit 2) (s18_12x14 num l) = some (.normal, sE1 num l s) := by
  refine (q18b call inl n num l).trans ?_
  rw [bT (show num > (0 : Int) from hn)]
  exact bnd hs (if_pos hl)
theorem far_d {call : CallT B} {inl : InlT} {n : Nat} {num : Int} {l : List ByteArray} (hn : ¬ (0 : Int) < num) : k18b call inl n (.exit 2) (s18_12x14 num l) = some (.normal, sE0 num l) := by
  refine (q18b call inl n num l).trans ?_
  rw [bF (show ¬ num > (0 : Int) from hn)]
/-- What the machine says of Far up to its last region. -/
theorem far_reckon {call : CallT B} {inl : InlT} {n : Nat} {v x : Ver} {num : Int} {r : List ByteArray} (hv : v.tabs.length ≤ 1000000) (hx : x.tabs.length ≤ 1000000) (hn1 : v.tabs.length < n) (hn2 : x.tabs.length < n) (h : farN call v x num = some r) :
    ∃ (l : List ByteArray) (s : St), r = rising l ∧ l.length * 16 ≤ 140737488355328 ∧ aCode (mkC B call inl) (B.keep 18) (iter (mkC B call inl) (B.keep 18) n) pre18 (st0 [argAV VerT v, argAV VerT x, argAV i64 num] 55) pairK = some (.normal, s) ∧ ((s = sE0 num l) ∨ ∃ k c, l = k ++ [c] ∧ s = sE1 num k c) := by
  obtain ⟨l1, h1, h⟩ := Option.bind_eq_some_iff.1 (show (farTabs call false v.tabs).bind _ = some r from h)
  obtain ⟨l2, h2, h⟩ := Option.bind_eq_some_iff.1 h
  have n1 : l1.length ≤ v.tabs.length := farTabs_len _ _ h1
  have n2 : l2.length ≤ x.tabs.length := farTabs_len _ _ h2
  have nn : (l1 ++ l2).length = l1.length + l2.length := List.length_append
  have e := (far_a (inl := inl) (x := x) (num := num) hv hn1 h1).trans (far_b (num := num) hx hn2 (by omega) h2)
  by_cases hn : (0 : Int) < num
  · rw [if_pos hn] at h
    obtain ⟨s, hs, rfl⟩ := Option.map_eq_some_iff.1 h
    exact ⟨l1 ++ l2 ++ [s], sE1 num (l1 ++ l2) s, rfl, (by rw [List.length_append]; show ((l1 ++ l2).length + 1) * 16 ≤ _; omega), e.trans (far_c hn (by omega) hs), .inr ⟨l1 ++ l2, s, rfl, rfl⟩⟩
  · rw [if_neg hn] at h
    cases h
    exact ⟨l1 ++ l2, _, rfl, by omega, e.trans (far_d hn), .inl rfl⟩
theorem con18 {call : CallT B} {inl : InlT} (hΓ : CallsOk (mkC B call inl)) {v x : Ver} {num : Int} {r : List ByteArray} (hv : v.tabs.length ≤ 1000000) (hx : x.tabs.length ≤ 1000000) (h : farN call v x num = some r) : CallOk Tryd.prog (shOf 18) 18 [argAV VerT v, argAV VerT x, argAV i64 num] r := by
  refine .inl ⟨⟨Tryd.f18, Tryd.func18, by kernel_rfl, rfl⟩, fun w N vargs hok hvs => ?_⟩
  have hst := start_inv hok hvs 55
  refine calls_of_wp Tryd.func18 code18_eq ?_
  rw [nt18]
  obtain ⟨l, s, rfl, hlen, hrun, hs⟩ := far_reckon (inl := inl) (n := v.tabs.length + x.tabs.length + 1) hv hx (by omega) (by omega) h
  have hL : LOk (mkC B call inl) (iter (R := AEx × St) (mkC B call inl) (B.keep 18) (v.tabs.length + x.tabs.length + 1)) := iter_ok hΓ (v.tabs.length + x.tabs.length + 1)
  refine seq_walk hΓ hL hrun hst (fun s1 m1 a1 w1 hrun hst => ?_)
  refine seq_walk hΓ hL hrun hst (fun s1 m1 a1 w1 hrun hst => ?_)
  refine seq_walk hΓ hL hrun hst (fun s1 m1 a1 w1 hrun hst => ?_)
  refine seq_walk hΓ hL hrun hst (fun s1 m1 a1 w1 hrun hst => ?_)
  refine last_walk hΓ hL hrun hst (fun m1 a1 w1 hq => ?_)
  have hown : ∃ inner, w1.ownsRow w.heap.size 9 1 (a1.eval (.tmp 7)) l.length inner ∧ repsOf (rep w1 (vw w ⟨N, [], []⟩ s m1 w1).N .str) l inner ∧ a1.tmps.size = 55 := by
    rcases hs with rfl | ⟨k, c, rfl, rfl⟩
    · obtain ⟨_, _, hO⟩ := (show _ ∧ _ ∧ _ from hq.ev (.tmp 7))
      obtain ⟨inner, ho, _, hr, _⟩ := hO (show hasBit 1 0 = true by decide)
      exact ⟨inner, ho, hr, hq.tlen⟩
    · obtain ⟨_, _, hO⟩ := (show _ ∧ _ ∧ _ from hq.ev (.tmp 7))
      obtain ⟨inner, ho, _, hr, _⟩ := hO (show hasBit 18518801667747479552 64 = true by decide)
      exact ⟨inner, ho, hr, hq.tlen⟩
  obtain ⟨inner, ho, hr, hsz⟩ := hown
  refine end18_walk hsz hq.defers rfl ((rising_own ho hr hq.below hlen).mono (fun e w' ⟨u, h1, h2, h3, h4⟩ => ⟨u, h1, u, rfl, h2, ?_⟩))
  exact res_own (e := .str) (inner := (rising l).map Value.string) h3 (strs_reps _)
end Go.Eng.Bk
/- refs.Near: its contract. -/
namespace Go.Eng.Bk
open Go Go.Proofs Go.Eng Go.RowKit
set_option linter.unusedVariables false
set_option linter.unusedSimpArgs false
set_option maxRecDepth 100000
theorem end15_eq : end15 = Code.region 8
    #[{ dst := some 29, op := Op.move (Operand.tmp 6), type := 31, pos := "refs.go:25", after := #[], guard := none },
      { dst := some 30, op := Op.call { callee := Callee.value (Operand.func 35), args := #[Operand.tmp 29], argTypes := #[31] }, type := 31, pos := "refs.go:25", after := #[{ on := 0, ground := Ground.data }], guard := none },
      { dst := some 31, op := Op.fieldAddr 36 (Operand.tmp 2) 3, type := 0, pos := "refs.go:25", after := #[{ on := 4, ground := Ground.gcOnly Departure.lateStores }], guard := none },
      { dst := some 32, op := Op.load 3 (Operand.tmp 31), type := 3, pos := "refs.go:25", after := #[{ on := 2, ground := Ground.data }, { on := 4, ground := Ground.gcOnly Departure.lateStores }], guard := none },
      { dst := some 4, op := Op.assign (Operand.tmp 30), type := 31, pos := "refs.go:25", after := #[{ on := 1, ground := Ground.data }, { on := 1, ground := Ground.chain }, { on := 0, ground := Ground.phase }, { on := 1, ground := Ground.phase }, { on := 2, ground := Ground.textOnly Departure.lateStores }, { on := 3, ground := Ground.textOnly Departure.lateStores }], guard := none },
      { dst := some 5, op := Op.assign (Operand.tmp 32), type := 3, pos := "refs.go:25", after := #[{ on := 3, ground := Ground.data }, { on := 4, ground := Ground.chain }, { on := 0, ground := Ground.phase }, { on := 1, ground := Ground.phase }, { on := 2, ground := Ground.phase }, { on := 3, ground := Ground.phase }, { on := 4, ground := Ground.phase }], guard := none }] true := by kernel_rfl
theorem arr33 (A : Array Value) (h : A.size = 33) : ∃ x0 x1 x2 x3 x4 x5 x6 x7 x8 x9 x10 x11 x12 x13 x14 x15 x16 x17 x18 x19 x20 x21 x22 x23 x24 x25 x26 x27 x28 x29 x30 x31 x32, A = #[x0, x1, x2, x3, x4, x5, x6, x7, x8, x9, x10, x11, x12, x13, x14, x15, x16, x17, x18, x19, x20, x21, x22, x23, x24, x25, x26, x27, x28, x29, x30, x31, x32] := by
  obtain ⟨l⟩ := A
  have h' : l.length = 33 := h
  rcases l with _ | ⟨x0, l⟩
  · simp at h'
  rcases l with _ | ⟨x1, l⟩
  · simp at h'
  rcases l with _ | ⟨x2, l⟩
  · simp at h'
  rcases l with _ | ⟨x3, l⟩
  · simp at h'
  rcases l with _ | ⟨x4, l⟩
  · simp at h'
  rcases l with _ | ⟨x5, l⟩
  · simp at h'
  rcases l with _ | ⟨x6, l⟩
  · simp at h'
  rcases l with _ | ⟨x7, l⟩
  · simp at h'
  rcases l with _ | ⟨x8, l⟩
  · simp at h'
  rcases l with _ | ⟨x9, l⟩
  · simp at h'
  rcases l with _ | ⟨x10, l⟩
  · simp at h'
  rcases l with _ | ⟨x11, l⟩
  · simp at h'
  rcases l with _ | ⟨x12, l⟩
  · simp at h'
  rcases l with _ | ⟨x13, l⟩
  · simp at h'
  rcases l with _ | ⟨x14, l⟩
  · simp at h'
  rcases l with _ | ⟨x15, l⟩
  · simp at h'
  rcases l with _ | ⟨x16, l⟩
  · simp at h'
  rcases l with _ | ⟨x17, l⟩
  · simp at h'
  rcases l with _ | ⟨x18, l⟩
  · simp at h'
  rcases l with _ | ⟨x19, l⟩
  · simp at h'
  rcases l with _ | ⟨x20, l⟩
  · simp at h'
  rcases l with _ | ⟨x21, l⟩
  · simp at h'
  rcases l with _ | ⟨x22, l⟩
  · simp at h'
  rcases l with _ | ⟨x23, l⟩
  · simp at h'
  rcases l with _ | ⟨x24, l⟩
  · simp at h'
  rcases l with _ | ⟨x25, l⟩
  · simp at h'
  rcases l with _ | ⟨x26, l⟩
  · simp at h'
  rcases l with _ | ⟨x27, l⟩
  · simp at h'
  rcases l with _ | ⟨x28, l⟩
  · simp at h'
  rcases l with _ | ⟨x29, l⟩
  · simp at h'
  rcases l with _ | ⟨x30, l⟩
  · simp at h'
  rcases l with _ | ⟨x31, l⟩
  · simp at h'
  rcases l with _ | ⟨x32, l⟩
  · simp at h'
  cases l with
  | nil => exact ⟨x0, x1, x2, x3, x4, x5, x6, x7, x8, x9, x10, x11, x12, x13, x14, x15, x16, x17, x18, x19, x20, x21, x22, x23, x24, x25, x26, x27, x28, x29, x30, x31, x32, rfl⟩
  | cons y l => simp at h'
theorem res15 : Tryd.f15.results = #[.tmp 4, .tmp 5] := by kernel_rfl
theorem mixedT : Tryd.prog.follows .mixedOrders = true := lay194.mixed
theorem end15_walk {w : World} {a : Act} {v : Value} {b : Nat} {lg : Int} (hsz : a.tmps.size = 33) (hd : a.defers = []) (h6 : a.tmps.getD 6 undef = v) (h2 : a.tmps.getD 2 undef = .pointer (some ⟨b, 0, none⟩)) (hc : w.cell? ⟨b, 3, none⟩ = some (.int .i64 lg)) {R : Value → World → Prop}
    (hcall : Calls Tryd.prog 35 #[v] w.drew fun e w' => ∃ u, e = .returned u ∧ R u w' ∧ w'.cell? ⟨b, 3, none⟩ = some (.int .i64 lg)) : (Code.seq end15 .ret).wp Tryd.prog (bodyPost Tryd.prog Tryd.f15 fun e w' => ∃ u, e = .returned (.tuple #[u, .int .i64 lg]) ∧ R u w') a w := by
  obtain ⟨tmps, defers⟩ := a
  obtain ⟨x0, x1, x2, x3, x4, x5, x6, x7, x8, x9, x10, x11, x12, x13, x14, x15, x16, x17, x18, x19, x20, x21, x22, x23, x24, x25, x26, x27, x28, x29, x30, x31, x32, he⟩ := arr33 tmps hsz
  subst he
  have hd' : defers = [] := hd
  subst hd'
  have h6' : x6 = v := h6
  have h2' : x2 = .pointer (some ⟨b, 0, none⟩) := h2
  subst h6' h2'
  have hc1 : w.drew.cell? ⟨b, 3, none⟩ = some (.int .i64 lg) := hc
  refine wp_seq ?_
  rw [end15_eq]
  have mixed := mixedT
  go_region_with (go_at_call 35; refine hcall.mono ?_; rintro e w' ⟨u, rfl, hR, hc2⟩)
  all_goals (show Code.ret.wp Tryd.prog _ _ _; refine wp_ret ?_; exact ⟨rfl, _, results_tmp2 res15 _ _ _, u, rfl, hR⟩)
theorem nt15 : Tryd.f15.ntmps = 33 := by kernel_rfl
theorem nearTabs_len {call : CallT B} : ∀ (ts : List Tab) (l : List ByteArray), nearTabs call ts = some l → l.length ≤ ts.length
  | [], l, h => by cases h; exact Nat.le_refl _
  | t :: r, l, h => by
    rw [nearTabs_cons] at h
    split at h
    · obtain ⟨s, _, h⟩ := Option.bind_eq_some_iff.1 h
      obtain ⟨k, hk, rfl⟩ := Option.map_eq_some_iff.1 h
      have := nearTabs_len r k hk
      show k.length + 1 ≤ r.length + 1
      omega
    · have := nearTabs_len r l h
      show l.length ≤ r.length + 1
      omega
theorem near_a {call : CallT B} {inl : InlT} {n : Nat} {v : Ver} {list c d : ByteArray} {l : List ByteArray} (hv : v.tabs.length ≤ 1000000) (hn : v.tabs.length < n) (h1 : call 11 [.v i64 (6 : Int), .v i64 (0 : Int), .v i64 (0 : Int)] = some c) (h2 : call 11 [.v i64 (4 : Int), .v i64 (0 : Int), .v i64 (0 : Int)] = some d) (h : nearTabs call v.tabs = some l) :
    aCode (mkC B call inl) (B.keep 15) (iter (mkC B call inl) (B.keep 15) n) pre15 (st0 [argAV VerT v, argAV .str list] 33) pairK = some (.normal, s15_6x8 v (c :: d :: list :: l)) := by
  refine (p15 call inl n v list).trans ?_
  refine bnd h1 (bnd h2 ?_)
  have e := l15 (call := call) (inl := inl) (k15 call inl n) v hv v.tabs.length 0 n [c, d, list] (by omega) (by simp) (by omega)
  rw [List.drop_zero, h, show ((0 : Nat) : Int) = 0 from rfl] at e
  refine e.trans ?_
  exact q15 call inl n v (c :: d :: list :: l)
theorem con15 {call : CallT B} {inl : InlT} (hΓ : CallsOk (mkC B call inl)) {v : Ver} {list : ByteArray} {r : List ByteArray × (Int × Unit)} (hv : v.tabs.length ≤ 1000000) (h : nearN call v list = some r) : CallOk Tryd.prog (shOf 15) 15 [argAV VerT v, argAV .str list] r := by
  refine .inl ⟨⟨Tryd.f15, Tryd.func15, by kernel_rfl, rfl⟩, fun w N vargs hok hvs => ?_⟩
  have hst := start_inv hok hvs 33
  refine calls_of_wp Tryd.func15 code15_eq ?_
  rw [nt15]
  obtain ⟨(c : ByteArray), h1, h⟩ := Option.bind_eq_some_iff.1 (show (call 11 [.v i64 (6 : Int), .v i64 (0 : Int), .v i64 (0 : Int)]).bind _ = some r from h)
  obtain ⟨(d : ByteArray), h2, h⟩ := Option.bind_eq_some_iff.1 h
  obtain ⟨l, h3, rfl⟩ := Option.map_eq_some_iff.1 h
  have hlen : l.length ≤ v.tabs.length := nearTabs_len _ _ h3
  have hrun := near_a (inl := inl) (n := v.tabs.length + 1) (list := list) hv (by omega) h1 h2 h3
  obtain ⟨x, hx⟩ : ∃ x, c :: d :: list :: l = x := ⟨_, rfl⟩
  have hxl : x.length = l.length + 3 := by rw [← hx]; rfl
  rw [hx] at hrun ⊢
  have hL : LOk (mkC B call inl) (iter (R := AEx × St) (mkC B call inl) (B.keep 15) (v.tabs.length + 1)) := iter_ok hΓ (v.tabs.length + 1)
  refine seq_walk hΓ hL hrun hst (fun s1 m1 a1 w1 hrun hst => ?_)
  refine seq_walk hΓ hL hrun hst (fun s1 m1 a1 w1 hrun hst => ?_)
  refine last_walk hΓ hL hrun hst (fun m1 a1 w1 hq => ?_)
  obtain ⟨_, _, hO⟩ := (show _ ∧ _ ∧ _ from hq.ev (.tmp 6))
  obtain ⟨inner, ho, hob, hr, _⟩ := hO (show hasBit 1 0 = true by decide)
  have hbx : (s15_6x8 v x).bx[0]? = some (some (36, [.v i64 v.1, .v i64 v.2.1, .v i64 v.2.2.1, .v i64 v.2.2.2.1, .v (.sl TabT) v.2.2.2.2.1])) := rfl
  obtain ⟨hB, vs, hheap, hall, _⟩ := hq.boxes 0 36 _ hbx
  obtain ⟨u3, hu3, hV3⟩ := all2_get (i := 3) hall rfl
  have hu3' : u3 = .int .i64 v.2.2.2.1 := by
    have : [u3] = [_] := hV3
    exact (List.cons.inj this).1
  have hcell : w1.cell? ⟨m1.B 0, 3, none⟩ = some (.int .i64 v.2.2.2.1) := by
    simp only [World.cell?, hheap]
    rw [← hu3', ← hu3]
    simp
  have hblt : m1.B 0 < w1.heap.size := (Array.getElem?_eq_some_iff.1 hheap).1
  have hne : (a1.eval (.tmp 6)).ownBlock ≠ some (m1.B 0) := fun e => by
    have hb' : (a1.eval (.tmp 6)).ownBlock = m1.G 0 := hob
    exact hq.sep 0 (m1.B 0) 0 36 _ (show hasBit 1 0 = true by decide) (hb'.symm.trans e) hbx rfl
  have h2p : a1.tmps.getD 2 undef = .pointer (some ⟨m1.B 0, 0, none⟩) := (show _ ∧ _ from hq.ev (.tmp 2)).1
  have hcall := rising_own (w := w1.drew) (w0 := w) (N := fun _ => True) ho hr ⟨hq.below.os, hq.below.tape, hq.below.output, hq.below.size, hq.below.block⟩ (by omega)
  refine wp_mono (end15_walk (R := fun u w' => Below w.heap.size w w' ∧ w'.ownsRow w.heap.size 9 1 u (rising x).length ((rising x).map Value.string)) hq.tlen hq.defers rfl h2p hcell (hcall.mono ?_)) ?_
  · rintro e w' ⟨u, rfl, k1, k2, k3⟩
    refine ⟨u, rfl, ⟨k1, k2⟩, ?_⟩
    have hk := k3 (m1.B 0) hblt hne
    have hk' : w'.heap[m1.B 0]? = w1.heap[m1.B 0]? := hk
    simp only [World.cell?, hk']
    exact hcell
  · intro e a' w' hp
    cases e with
    | exit _ => exact hp.elim
    | goto _ => exact hp.elim
    | outgrown => obtain ⟨u, h, _⟩ := hp; cases h
    | panic c => obtain ⟨_, u, h, _⟩ := hp; cases h
    | _ =>
      obtain ⟨p1, vv, p2, u, p3, p4, p5⟩ := (show _ ∧ _ from hp)
      cases p3
      refine ⟨p1, _, p2, _, rfl, p4, ⟨[u, .int .i64 v.2.2.2.1], rfl, ⟨⟨(rising x).map Value.string, p5, strs_reps _⟩, ⟨_, rfl, rfl⟩, rfl⟩, ?_⟩⟩
      show (u.ownBlock.toList ++ []).Nodup
      cases u.ownBlock <;> simp
end Go.Eng.Bk
/- The functions that are answered for by hand have their contracts: the base is sound. -/
namespace Go.Eng.Bk
open Go Go.Proofs Go.Eng
set_option linter.unusedVariables false
theorem ite_some {c : Prop} [Decidable c] {α : Type} {x : Option α} {r : α} (h : (if c then x else none) = some r) : c ∧ x = some r := by
  by_cases hc : c
  · rw [if_pos hc] at h; exact ⟨hc, h⟩
  · rw [if_neg hc] at h; cases h
theorem spOk (f : FuncId) (g) (args : List AV) (r : (B.sh f).den) (h : B.sp f = some g) (h2 : g args = some r) : CallOk B.P (B.sh f) f args r := by
  have h' : spOf f = some g := h
  unfold spOf at h'
  split at h'
  · cases h'
    simp only at h2
    split at h2
    · obtain ⟨hn, h3⟩ := ite_some h2
      cases h3; exact con25 hn
    · cases h2
  · cases h'
    simp only at h2
    split at h2
    · obtain ⟨hn, h3⟩ := ite_some h2
      cases h3; exact con26 hn
    · cases h2
  · cases h'
    simp only at h2
    split at h2
    · obtain ⟨hn, h3⟩ := ite_some h2
      cases h3; exact con30 hn.1 hn.2
    · cases h2
  · cases h'
theorem spcOk (call : CallT B) (inl : InlT) (hΓ : CallsOk (mkC B call inl)) (f : FuncId) (g) (args : List AV) (r : (B.sh f).den) (h : B.spc f = some g) (h2 : g call args = some r) : CallOk B.P (B.sh f) f args r := by
  have h' : spcOf f = some g := h
  unfold spcOf at h'
  split at h'
  · cases h'
    simp only at h2
    split at h2
    · rename_i v1 v2 v3 v4 v5 list
      obtain ⟨hn, h3⟩ := ite_some h2
      exact con15 (v := (v1, v2, v3, v4, v5, ())) (list := list) hΓ hn h3
    · cases h2
  · cases h'
    simp only at h2
    split at h2
    · rename_i v1 v2 v3 v4 v5 m1 m2 m3 m4 m5 num
      obtain ⟨hn, h3⟩ := ite_some h2
      exact con18 (v := (v1, v2, v3, v4, v5, ())) (x := (m1, m2, m3, m4, m5, ())) (num := num) hΓ hn.1 hn.2 h3
    · cases h2
  · cases h'
theorem bok : BaseOk B := ⟨names_of (by kernel_rfl), spOk, (fun _ _ f g args s x s' h => by cases h), spcOk⟩
end Go.Eng.Bk
/- What comes in at a law: bytes and numbers. -/
namespace Go.Eng.Bk
open Go Go.Proofs Go.Eng
theorem wf_int {k : IntKind} {y : Int} (w : wf (.int k) y) : k.min ≤ y ∧ y ≤ k.max := by
  have h : (Lit.int k y).wf = true := w
  simp only [Lit.wf, decide_eq_true_eq, Bool.and_eq_true] at h
  exact h
theorem in_u8 {y : (u8).den} (w : wf u8 y) : ∃ n : Nat, n < 256 ∧ y = ((n : Nat) : Int) := by
  have h := wf_int w
  rw [show IntKind.min .u8 = 0 from rfl, show IntKind.max .u8 = 255 from rfl] at h
  have h' : (0 : Int) ≤ y ∧ (y : Int) ≤ 255 := h
  exact ⟨Int.toNat y, by have := h'; omega, (Int.toNat_of_nonneg h'.1).symm⟩
abbrev u16 : Ty := .int .u16
theorem in_u16 {y : (u16).den} (w : wf u16 y) : ∃ n : Nat, n < 65536 ∧ y = ((n : Nat) : Int) := by
  have h := wf_int w
  rw [show IntKind.min .u16 = 0 from rfl, show IntKind.max .u16 = 65535 from rfl] at h
  have h' : (0 : Int) ≤ y ∧ (y : Int) ≤ 65535 := h
  exact ⟨Int.toNat y, by have := h'; omega, (Int.toNat_of_nonneg h'.1).symm⟩
theorem in_bytes {y : (Ty.sl u8).den} (w : wf (.sl u8) y) : Bytes y ∧ List.length y ≤ maxLen := by
  have h : List.length y ≤ maxLen ∧ ∀ x ∈ (y : List Int), wf u8 x := w
  refine ⟨fun x hx => ?_, h.1⟩
  have h := wf_int (h.2 x hx)
  rw [show IntKind.min .u8 = 0 from rfl, show IntKind.max .u8 = 255 from rfl] at h
  exact h
end Go.Eng.Bk
